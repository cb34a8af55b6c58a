/- A table that is nil: what its methods say. -/
import Derived.Test.YtdmmceclohkkdaaTab
namespace Go.Proofs.Ytdmmceclohkkdaa
open Go.RowKit Go.Sort
set_option maxHeartbeats 4000000
set_option maxRecDepth 100000
theorem nput_any (k : KW) (v : Value) (w : World) : Calls Try.prog 16 #[.pointer none, k.val, v] w (RetV w (.int .i64 1)) := by
  go_enter Try.func16, Try.ntmps16
  go_wp2
  go_ret
  exact ⟨rfl, by (repeat (first | with_reducible exact Below.refl _ _ | with_reducible refine bl_alloc ?_ _ | ((with_reducible refine bl_set ?_ ?_ _); rotate_left; (first | exact Nat.le_refl _ | exact Nat.le_succ_of_le (Nat.le_refl _) | (simp only []; omega))) | with_reducible refine bl_drewN ?_ _ | with_reducible refine bl_drew ?_ | with_reducible refine bl_reg ?_ _))⟩
theorem nget_any (k : KW) (w : World) : Calls Try.prog 33 #[.pointer none, k.val] w (RetV w (.tuple #[.int .i64 0, .bool false])) := by
  go_enter Try.func33, Try.ntmps33
  go_wp2
  go_ret2
  exact ⟨rfl, by (repeat (first | with_reducible exact Below.refl _ _ | with_reducible refine bl_alloc ?_ _ | ((with_reducible refine bl_set ?_ ?_ _); rotate_left; (first | exact Nat.le_refl _ | exact Nat.le_succ_of_le (Nat.le_refl _) | (simp only []; omega))) | with_reducible refine bl_drewN ?_ _ | with_reducible refine bl_drew ?_ | with_reducible refine bl_reg ?_ _))⟩
theorem ndel_any (k : KW) (w : World) : Calls Try.prog 35 #[.pointer none, k.val] w (RetV w (.bool false)) := by
  go_enter Try.func35, Try.ntmps35
  go_wp2
  go_ret
  exact ⟨rfl, by (repeat (first | with_reducible exact Below.refl _ _ | with_reducible refine bl_alloc ?_ _ | ((with_reducible refine bl_set ?_ ?_ _); rotate_left; (first | exact Nat.le_refl _ | exact Nat.le_succ_of_le (Nat.le_refl _) | (simp only []; omega))) | with_reducible refine bl_drewN ?_ _ | with_reducible refine bl_drew ?_ | with_reducible refine bl_reg ?_ _))⟩
theorem nlen_any (w : World) : Calls Try.prog 36 #[.pointer none] w (fun e w' => e = .returned (.int .i64 0) ∧ w = w') := by
  go_enter Try.func36, Try.ntmps36
  go_wp2
  go_ret
  exact ⟨rfl, rfl⟩
theorem nroom_any (w : World) : Calls Try.prog 37 #[.pointer none] w (fun e w' => e = .returned (.int .i64 0) ∧ w = w') := by
  go_enter Try.func37, Try.ntmps37
  go_wp2
  go_ret
  exact ⟨rfl, rfl⟩
theorem nmin_any (w : World) : Calls Try.prog 34 #[.pointer none] w (RetV w (.tuple #[KW.val ⟨0, 0, 0⟩, .int .i64 0, .bool false])) := by
  go_enter Try.func34, Try.ntmps34
  go_wp2_with fail
  exact bodyPost_ret (v := .tuple #[KW.val ⟨0, 0, 0⟩, .int .i64 0, .bool false]) (by simp [results, Try.results34, go_sem]) rfl ⟨rfl, by (repeat (first | with_reducible exact Below.refl _ _ | with_reducible refine bl_alloc ?_ _ | ((with_reducible refine bl_set ?_ ?_ _); rotate_left; (first | exact Nat.le_refl _ | exact Nat.le_succ_of_le (Nat.le_refl _) | (simp only []; omega))) | with_reducible refine bl_drewN ?_ _ | with_reducible refine bl_drew ?_ | with_reducible refine bl_reg ?_ _))⟩
theorem npop_any (w : World) : Calls Try.prog 18 #[.pointer none] w (RetV w (.tuple #[KW.val ⟨0, 0, 0⟩, .int .i64 0, .bool false])) := by
  have hgb : Grows w (w.alloc (.cells #[.int .i64 0, .int .i64 0, .int .u32 0] 29)) := bl_alloc (Below.refl _ _) _
  have hbx := heap_alloc_new w (.cells #[.int .i64 0, .int .i64 0, .int .u32 0] 29)
  have HM := Lib.hid (fun W => nmin_any W)
  have HG := Lib.hid hgb
  have HBX := Lib.hid hbx
  clear hgb hbx
  go_enter Try.func18, Try.ntmps18
  go_wp2_with fail
  refine (HM.out _).mono ?_
  rintro e w2 ⟨rfl, hg2⟩
  have hbx2 := box_grows HBX.out hg2
  obtain ⟨s0, f0⟩ := cell_in hbx2 0 rfl
  obtain ⟨s1, f1⟩ := cell_in hbx2 1 rfl
  obtain ⟨s2, f2⟩ := cell_in hbx2 2 rfl
  obtain ⟨w5, e5⟩ : ∃ w5, ((w2.setCell ⟨w.heap.size, 0, none⟩ (.int .i64 0)).setCell ⟨w.heap.size, 1, none⟩ (.int .i64 0)).setCell ⟨w.heap.size, 2, none⟩ (.int .u32 0) = w5 := ⟨_, rfl⟩
  have b5 : w5.heap[w.heap.size]? = some (.cells #[.int .i64 0, .int .i64 0, .int .u32 0] 29 (0, 0)) := by rw [← e5]; exact box_setj (box_setj (box_setj hbx2))
  have hg5 : Grows w w5 := by
    rw [← e5]
    have h10 : Below w.heap.size w w2 := grows_trans _ _ _ HG.out hg2
    exact bl_set (bl_set (bl_set h10 (Nat.le_refl _) _) (Nat.le_refl _) _) (Nat.le_refl _) _
  obtain ⟨q0, -⟩ := cell_in b5 0 rfl
  obtain ⟨q1, -⟩ := cell_in b5 1 rfl
  obtain ⟨q2, -⟩ := cell_in b5 2 rfl
  have z1 := box_lt hbx2
  have z5 := box_lt b5
  have HG2 := Lib.hid hg5
  clear hg2 hbx2 b5 hg5
  go_wp2_with fail
  exact bodyPost_ret (v := .tuple #[KW.val ⟨0, 0, 0⟩, .int .i64 0, .bool false]) (by simp [results, Try.results18, go_sem, e5, q0, q1, q2, z5]) rfl ⟨rfl, (by first | exact HG2.out | exact bl_alloc HG2.out _ | (rw [e5]; exact bl_alloc HG2.out _))⟩
theorem nclear_any (w : World) : Calls Try.prog 32 #[.pointer none] w (fun e w' => e = .returned (.tuple #[]) ∧ w = w') := by
  go_enter Try.func32, Try.ntmps32
  go_wp2

  exact bodyPost_ret (v := .tuple #[]) (by simp [results, Try.results32, go_sem]) rfl ⟨rfl, rfl⟩
end Go.Proofs.Ytdmmceclohkkdaa
