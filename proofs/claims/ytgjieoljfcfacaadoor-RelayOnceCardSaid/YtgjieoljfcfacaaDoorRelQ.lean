/- A new relay. -/
import Derived.Test.YtgjieoljfcfacaaDoorRelO
namespace Go.Proofs.YtgjieoljfcfacaaDoor
open Go.RowKit Go.Sort
set_option maxHeartbeats 4000000
set_option maxRecDepth 100000
theorem rnew_r_any (me n most : Int) (B : BV) (w : World) : Calls Tryd.prog 21 #[.int .i64 me, .int .i64 n, B.val, .int .i64 most] w (fun e w' => ∃ rb sb, e = .returned (.pointer (some ⟨rb, 0, none⟩)) ∧ Grows w w' ∧ RelayAt w' (w.heap.size + 1) rb sb (w.heap.size + 1 + 1) (.slice none 0 0) (w.heap.size + 1) [] (mostOfI most) me n B) := by
  obtain ⟨c, ec⟩ : ∃ c, w.heap.size = c := ⟨_, rfl⟩
  obtain ⟨W, eW⟩ : ∃ W, w.alloc (.cells B.cells TBO) = W := ⟨_, rfl⟩
  have hg : Grows w W := by rw [← eW]; exact bl_alloc (Below.refl _ _) _
  have hb := heap_alloc_new w (.cells B.cells TBO)
  have hsz : W.heap.size = c + 1 := by rw [← eW]; simp [ec]
  rw [eW, ec] at hb
  have HN := Lib.hid (fun W => snew_any most W)
  have HG := Lib.hid hg
  have HB := Lib.hid hb
  have HSZ := Lib.hid hsz
  have EC := Lib.hid ec
  clear hg hb hsz
  simp only [BV.val, BV.cells] at eW ⊢
  go_enter Tryd.func21, Tryd.ntmps21
  go_wp2_with fail
  have KS := Lib.hid (fun w' (hg : Grows W w') => show w'.cell? ⟨c, 0, none⟩ = some (.int .i64 B.b0) ∧ w'.cell? ⟨c, 1, none⟩ = some (.int .i64 B.b1) ∧ w'.cell? ⟨c, 2, none⟩ = some (.int .i64 B.b2) ∧ w'.cell? ⟨c, 3, none⟩ = some (.int .i64 B.b3) ∧ w'.cell? ⟨c, 4, none⟩ = some (.int .i64 B.b4) ∧ w'.cell? ⟨c, 5, none⟩ = some (.int .i64 B.b5) ∧ w'.cell? ⟨c, 6, none⟩ = some (.int .i64 B.b6) ∧ w'.cell? ⟨c, 7, none⟩ = some (.int .i64 B.b7) ∧ w'.cell? ⟨c, 8, none⟩ = some (.int .i64 B.b8) ∧ w'.cell? ⟨c, 9, none⟩ = some (.int .i64 B.b9) ∧ w'.cell? ⟨c, 10, none⟩ = some (.int .i64 B.b10) ∧ w'.cell? ⟨c, 11, none⟩ = some (.int .i64 B.b11) ∧ w'.cell? ⟨c, 12, none⟩ = some (.int .i64 B.b12) ∧ w'.cell? ⟨c, 13, none⟩ = some (.int .i64 B.b13) from by
    have h := box_grows HB.out hg
    exact ⟨(cell_in h 0 rfl).1, (cell_in h 1 rfl).1, (cell_in h 2 rfl).1, (cell_in h 3 rfl).1, (cell_in h 4 rfl).1, (cell_in h 5 rfl).1, (cell_in h 6 rfl).1, (cell_in h 7 rfl).1, (cell_in h 8 rfl).1, (cell_in h 9 rfl).1, (cell_in h 10 rfl).1, (cell_in h 11 rfl).1, (cell_in h 12 rfl).1, (cell_in h 13 rfl).1⟩)
  go_region_held3 (fun w' => w'.cell? ⟨c, 0, none⟩ = some (.int .i64 B.b0) ∧ w'.cell? ⟨c, 1, none⟩ = some (.int .i64 B.b1) ∧ w'.cell? ⟨c, 2, none⟩ = some (.int .i64 B.b2) ∧ w'.cell? ⟨c, 3, none⟩ = some (.int .i64 B.b3) ∧ w'.cell? ⟨c, 4, none⟩ = some (.int .i64 B.b4) ∧ w'.cell? ⟨c, 5, none⟩ = some (.int .i64 B.b5) ∧ w'.cell? ⟨c, 6, none⟩ = some (.int .i64 B.b6) ∧ w'.cell? ⟨c, 7, none⟩ = some (.int .i64 B.b7) ∧ w'.cell? ⟨c, 8, none⟩ = some (.int .i64 B.b8) ∧ w'.cell? ⟨c, 9, none⟩ = some (.int .i64 B.b9) ∧ w'.cell? ⟨c, 10, none⟩ = some (.int .i64 B.b10) ∧ w'.cell? ⟨c, 11, none⟩ = some (.int .i64 B.b11) ∧ w'.cell? ⟨c, 12, none⟩ = some (.int .i64 B.b12) ∧ w'.cell? ⟨c, 13, none⟩ = some (.int .i64 B.b13))
    ((first | exact KS.out _ G7.out | exact KS.out _ (grows_trans _ _ _ G7.out (bl_alloc (Below.refl _ _) _)) | exact KS.out _ (by show Below W.heap.size W _; (repeat (first | with_reducible exact Below.refl _ _ | with_reducible refine bl_alloc ?_ _ | ((with_reducible refine bl_set ?_ ?_ _); rotate_left; (first | exact Nat.le_refl _ | exact Nat.le_succ_of_le (Nat.le_refl _) | (simp only []; omega))) | with_reducible refine bl_drewN ?_ _ | with_reducible refine bl_drew ?_ | with_reducible refine bl_reg ?_ _)))))
    ((go_at_call 46; refine (HN.out _).mono ?_; rintro e w7 ⟨sb, rfl, hg7, hs7⟩; have G7 := Lib.hid (grows_trans _ _ _ (bl_drew (Below.refl _ _) : Grows W W.drew) hg7); have S7 := Lib.hid hs7; clear hg7 hs7))
  all_goals (
    go_wp2_with fail
    go_ret
    have hgx : Grows w7 (w7.alloc (.cells #[.pointer (some ⟨sb, 0, none⟩), .int .i64 me, .int .i64 n, .int .i64 B.b0, .int .i64 B.b1, .int .i64 B.b2, .int .i64 B.b3, .int .i64 B.b4, .int .i64 B.b5, .int .i64 B.b6, .int .i64 B.b7, .int .i64 B.b8, .int .i64 B.b9, .int .i64 B.b10, .int .i64 B.b11, .int .i64 B.b12, .int .i64 B.b13] TRL)) := bl_alloc (Below.refl _ _) _
    have hsd : W.drew.heap.size = c + 1 := HSZ.out
    have hs := S7.out
    rw [hsd] at hs
    refine ⟨_, sb, rfl, grows_trans _ _ _ HG.out (grows_trans _ _ _ G7.out hgx), ?_⟩
    rw [EC.out]
    exact ⟨heap_alloc_new w7 _, hs.grows hgx, by have := G7.out.size; rw [HSZ.out] at this; exact this⟩)
end Go.Proofs.YtgjieoljfcfacaaDoor
