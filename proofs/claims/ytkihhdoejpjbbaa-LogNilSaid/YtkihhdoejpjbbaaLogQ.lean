/- The walk of LogNil. -/
import Derived.Test.YtkihhdoejpjbbaaRangeL
namespace Go.Proofs.Ytkihhdoejpjbbaa
open Go.RowKit Go.Sort
set_option maxHeartbeats 2000000
set_option maxRecDepth 100000

theorem lall_nil (w : World) : Calls Try.prog 43 #[.pointer none] w (fun e w' => e = .returned (.func (.func 65) #[] #[.pointer (some ⟨w.heap.size, 0, none⟩)]) ∧ Grows w w' ∧ w'.cell? ⟨w.heap.size, 0, none⟩ = some (.pointer none)) := by
  go_enter Try.func43, Try.ntmps43
  go_wp2
  go_ret
  refine ⟨rfl, by show Below w.heap.size w _; (repeat (first | with_reducible exact Below.refl _ _ | with_reducible refine bl_alloc ?_ _ | ((with_reducible refine bl_set ?_ ?_ _); rotate_left; (first | exact Nat.le_refl _ | exact Nat.le_succ_of_le (Nat.le_refl _) | (simp only []; omega))) | with_reducible refine bl_drewN ?_ _ | with_reducible refine bl_drew ?_ | with_reducible refine bl_reg ?_ _)), ?_⟩
  simp [go_sem]

theorem part_nil (w : World) (i : Int) (h : 0 ≤ i) : Calls Try.prog 62 #[.pointer none, .int .i64 i, .int .i64 0] w (fun e w' => e = .returned (.slice none 0 0) ∧ w = w') := by
  have h1 : decide (i < 0) = false := decide_eq_false (Int.not_lt.2 h)
  go_enter Try.func62, Try.ntmps62
  go_wp2_with fail
  go_loop [7, 8] (fun vo vi => vo = .slice none 0 0 ∧ vi = .int .i64 i) (fun _ _ => 0)
  case atStart => exact ⟨rfl, rfl⟩
  case round =>
    obtain ⟨rfl, rfl⟩ := hrel
    go_wp2_with fail
    go_ret
    exact ⟨rfl, rfl⟩
theorem since_nil (w : World) (i : Int) : Calls Try.prog 42 #[.pointer none, .int .i64 i] w (fun e w' => e = .returned (.slice none 0 0) ∧ w = w') := by
  have HL := Lib.hid (llen_nil w)
  have HP := Lib.hid (fun i h => part_nil w i h)
  rcases Int.lt_trichotomy i 0 with h0 | rfl | h0
  all_goals (
    go_enter Try.func42, Try.ntmps42
    go_wp2_with (first | (go_at_call 39; refine (HL.out).mono ?_; rintro e w' ⟨rfl, rfl⟩))
    refine (HP.out _ (by omega)).mono ?_
    rintro e w' ⟨rfl, rfl⟩
    go_wp2_with fail
    go_ret
    exact ⟨rfl, rfl⟩)
theorem between_nil (w : World) (lo hi : Int) : Calls Try.prog 34 #[.pointer none, .int .i64 lo, .int .i64 hi] w (fun e w' => e = .returned (.slice none 0 0) ∧ Grows w w') := by
  have H1 := Lib.hid (first_nil lo false w)
  have H2 := Lib.hid (fun W => first_nil hi true W)
  have HP := Lib.hid (fun W => part_nil W 0 (by decide))
  go_enter Try.func34, Try.ntmps34
  go_wp2_with fail
  refine (H1.out).mono ?_
  rintro e w1 ⟨rfl, hg1⟩
  have G1 := Lib.hid hg1
  clear hg1
  go_wp2_with fail
  refine (H2.out _).mono ?_
  rintro e w2 ⟨rfl, hg2⟩
  have G2 := Lib.hid (grows_trans _ _ _ G1.out hg2)
  clear hg2
  go_wp2_with fail
  refine (HP.out _).mono ?_
  rintro e w3 ⟨rfl, rfl⟩
  go_wp2_with fail
  go_ret
  exact ⟨rfl, G2.out⟩

theorem lat_nil' (i : Int) (w : World) : Calls Try.prog 40 #[.pointer none, .int .i64 i] w (RetV w (.tuple #[zeroE, .bool false])) := by
  by_cases hi : 0 ≤ i
  · exact lat_nil i hi w
  · exact lat_low _ i (Int.not_le.1 hi) w (.inl rfl)
theorem logNil_walk (x : EW) (i : Int) (w : World) :
    Calls Try.prog 12 #[x.val, .int .i64 i] w (RetV w (.bool true)) := by
  have HW := Lib.hid (fun W => logWorks_any W)
  have HAL := Lib.hid (fun W => lall_nil W)
  have qn := fun (W : World) f cs => run_neq_func_nil (P := Try.prog) W 75 f cs Try.underlying75
  refine calls_of_wp_marks Try.func12 rfl ?_
  simp only [Try.ntmps12, List.size_toArray, List.length_cons, List.length_nil, Nat.reduceAdd, Nat.reduceSub, Array.replicate_succ, Array.replicate_zero, List.push_toArray, List.append_toArray, List.nil_append, List.cons_append]
  go_wp2_with fail
  refine (HAL.out _).mono ?_
  rintro e w1 ⟨rfl, hg1, hc1⟩
  have q := two_new w (.cells #[.int .i64 x.a, .int .i64 x.k.t, .int .i64 x.k.f, .int .u32 x.k.s, x.bv] 56) (.cells #[.bool false] 4)
  have q0 := (hg1.block w.heap.size (by simp; omega)).trans q.1
  have q1 := (hg1.block (w.heap.size + 1) (by simp)).trans q.2
  simp only [World.size_alloc] at hc1
  have hb1 : Below w.heap.size w w1 := (bl_alloc (bl_alloc (Below.refl _ _) _) _).trans ((hg1 : Below _ _ _).mono (by simp; omega))
  have Q0 := Lib.hid (And.intro q0 (And.intro q1 (And.intro hc1 hb1)))
  clear hg1 hc1 q q0 q1 hb1
  go_wp2_with fail
  refine wp_range (α := EW) rfl (enters_of Try.func65 (by kernel_rfl) rfl) EW.val rfl (fun _ => False) (fun _ h => h.elim)
    (fun _ W => W.heap[w.heap.size]? = some (.cells #[.int .i64 x.a, .int .i64 x.k.t, .int .i64 x.k.f, .int .u32 x.k.s, x.bv] 56 (0, 0)) ∧ W.heap[w.heap.size + 1]? = some (.cells #[.bool false] 4 (0, 0)) ∧
      W.cell? ⟨w.heap.size + 1 + 1, 0, none⟩ = some (.pointer none) ∧ Below w.heap.size w W)
    (fun _ _ _ => False) (fun _ _ _ => False) (fun xs => xs = []) ?hI ?hIx ?h0 ?it ?rd ?dn ?st
  case hI =>
    rintro s X Y ⟨h1, h2, h3, h4⟩ hr
    exact ⟨hr.at h1, hr.at h2, hr.cell1 h3, hr.below h4 (Nat.le_refl _) Q0.out.2.2.2.size⟩
  case hIx => exact fun _ _ _ _ h _ => h.elim
  case h0 => exact Q0.out
  case it => exact all_nil_tells w1 _ _ _ (fun s X h => h.2.2.1)
  case rd => exact fun _ _ _ _ _ _ _ h => h.elim
  case st => exact fun _ _ _ _ _ h => h.elim
  case dn =>
    rintro D xs W hD rfl ⟨h1, h2, h3, h4⟩ hdf
    have hsz : w.heap.size + 2 ≤ W.heap.size := by have := (Array.getElem?_eq_some_iff.1 h2).1; omega
    have H4 := Lib.hid (And.intro h4 (And.intro h1 (And.intro h2 (And.intro hdf hsz))))
    have HD := Lib.hid (Nat.le_trans Q0.out.2.2.2.size hD)
    clear Q0 h1 h2 h3 h4 hdf hD hsz
    have HAT := Lib.hid (fun W => lat_nil' i W)
    have HAD := Lib.hid (fun W => ladd_nil x W)
    have HLE := Lib.hid (fun W => llen_nil W)
    have HSI := Lib.hid (fun W => since_nil W i)
    have HBE := Lib.hid (fun W => between_nil W 0 9)
    go_wp2_with fail
    refine (HAT.out _).mono ?_
    rintro e w2 ⟨rfl, hg2⟩
    have hk2 : ∀ k o, W.heap[k]? = some o → w2.heap[k]? = some o := fun k o h => by rw [hg2.block k (Array.getElem?_eq_some_iff.1 h).1]; exact h
    obtain ⟨h4, h1, h2, hdf, hsz⟩ := H4.out
    have h1' := hk2 _ _ h1
    have h2' := hk2 _ _ h2
    have hd' := hk2 _ _ hdf
    have hs2 := Nat.le_trans hsz hg2.size
    have hl0 : w.heap.size < w2.heap.size := by omega
    have hl1 : w.heap.size + 1 < w2.heap.size := by omega
    obtain ⟨p0, -⟩ := cell_in h1' 0 rfl
    obtain ⟨p1, -⟩ := cell_in h1' 1 rfl
    obtain ⟨p2, -⟩ := cell_in h1' 2 rfl
    obtain ⟨p3, -⟩ := cell_in h1' 3 rfl
    obtain ⟨p4, -⟩ := cell_in h1' 4 rfl
    have H5 := Lib.hid (And.intro (h4.trans ((hg2 : Below _ _ _).mono (Nat.le_trans (Nat.le_add_right _ 2) hsz))) (And.intro h2' (And.intro hd' hs2)))
    clear hk2 hg2 h1 h2 h4 hdf hsz h1' h2' hd' H4 hs2
    go_wp2_with fail
    refine (HAD.out _).mono ?_
    rintro e w3 ⟨rfl, hg3⟩
    have G3 := Lib.hid (grows_trans _ _ _ (bl_alloc (Below.refl _ _) _ : Grows w2 _) hg3)
    clear hg3 p0 p1 p2 p3 p4
    go_wp2_with fail
    refine (HLE.out _).mono ?_
    rintro e w4 ⟨rfl, rfl⟩
    go_wp2_with fail
    refine (HSI.out _).mono ?_
    rintro e w4 ⟨rfl, rfl⟩
    go_wp2_with fail
    refine (HBE.out _).mono ?_
    rintro e w4 ⟨rfl, hg4⟩
    have G4 := Lib.hid (grows_trans _ _ _ G3.out hg4)
    clear hg4
    go_wp2_with fail
    refine (HW.out _).mono ?_
    rintro e w5 ⟨rfl, hg5⟩
    have G5 := Lib.hid (grows_trans _ _ _ G4.out hg5)
    clear hg5 G4 G3
    obtain ⟨h4, h2, hdf, hsz⟩ := H5.out
    have h5 := G5.out
    have hk5 : ∀ k o, w2.heap[k]? = some o → w5.heap[k]? = some o := fun k o h => by rw [h5.block k (Array.getElem?_eq_some_iff.1 h).1]; exact h
    obtain ⟨p5, p6⟩ := cell_in (hk5 _ _ h2) 0 rfl
    have hl5 : w.heap.size + 1 < w5.heap.size := Nat.lt_of_lt_of_le hl1 h5.size
    have H6 := Lib.hid (And.intro (h4.trans ((h5 : Below _ _ _).mono (Nat.le_of_lt hl0))) (And.intro (hk5 _ _ hdf) hl5))
    clear hk5 h5 h4 h2 hdf hsz
    go_wp2_with fail
    obtain ⟨h4, hdf, -⟩ := H6.out
    have hc5 := World.cell?_setCell_same' w5 ⟨w.heap.size + 1, 0, none⟩ (.bool true) (by rw [p5]; rfl)
    have hD5 : (w5.setCell ⟨w.heap.size + 1, 0, none⟩ (.bool true)).heap[D]? = some (.deferred (some [])) := (KeepsOthers.setCell w5 ⟨w.heap.size + 1, 0, none⟩ (.bool true)).same D _ hdf rfl
    refine ⟨by simp, .inl ⟨_, _, rfl, run_takeDeferred hD5, ?_⟩⟩
    have hc6 := cell_kept hc5 (grownBy_putObj' _ D (.deferred none)) (fun r e => by cases e; exact ⟨_, hD5, rfl⟩)
    refine ⟨.bool true, by simp [results, Try.results12, go_sem, hc6], rfl, ?_⟩
    exact (Rec.put _ HD.out hD5 rfl).below (bl_set h4 (Nat.le_succ _) _) (Nat.le_refl _) (Nat.le_refl _)
end Go.Proofs.Ytkihhdoejpjbbaa
