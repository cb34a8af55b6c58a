/- Drop of a table that is nil; the walk of TableNil. -/
import Derived.Test.YtdmmceclohkkdaaTabDrop
import Derived.Test.YtdmmceclohkkdaaTabW
namespace Go.Proofs.Ytdmmceclohkkdaa
open Go.RowKit Go.Sort
set_option maxHeartbeats 4000000
set_option maxRecDepth 100000
theorem tdrop_nil (f : Nat) (cs : Array Value) (w : World) : Calls Try.prog 38 #[.pointer none, .func (.func f) #[] cs] w (RetV w (.int .i64 0)) := by
  have HAL := Lib.hid (fun W => tall_any (.pointer none) (.inl rfl) W)
  refine calls_of_wp_marks Try.func38 rfl ?_
  simp only [Try.ntmps38, List.size_toArray, List.length_cons, List.length_nil, Nat.reduceAdd, Nat.reduceSub, Array.replicate_succ, Array.replicate_zero, List.push_toArray, List.append_toArray, List.nil_append, List.cons_append]
  go_wp2_with fail
  refine (HAL.out _).mono ?_
  rintro e w1 ⟨rfl, hg1, hc1⟩
  obtain ⟨b, eb⟩ : ∃ b, w.heap.size = b := ⟨_, rfl⟩
  have q3 := heap_alloc_new ((w.alloc (.cells #[.pointer none] 23)).alloc (.cells #[.func (.func f) #[] cs] 63)) (.cells #[.int .i64 0] 3)
  have g3 : Grows w (World.alloc ((w.alloc (.cells #[.pointer none] 23)).alloc (.cells #[.func (.func f) #[] cs] 63)) (.cells #[.int .i64 0] 3)) := bl_alloc (bl_alloc (bl_alloc (Below.refl _ _) _) _) _
  have q3 := box_grows q3 hg1
  have g0 : Grows w w1 := grows_trans _ _ _ g3 hg1
  simp only [World.size_alloc] at hc1 q3 ⊢
  rw [eb] at q3 hc1 ⊢
  have EB := Lib.hid eb
  have G0 := Lib.hid g0
  have H1 := Lib.hid (And.intro q3 hc1)
  clear hg1 hc1 q3 g3 g0 eb
  go_wp2_with fail
  refine wp_range2 (α := KW × Value) rfl (enters_of Try.func67 (by kernel_rfl) rfl) rowV (fun _ => rfl) (fun _ => False) (fun _ h => h.elim)
    (fun s W => W.heap[b + 2]? = some (.cells #[.int .i64 0] 3 (0, 0)) ∧ W.cell? ⟨b + 3, 0, none⟩ = some (.pointer none) ∧ Below b w W)
    (fun _ _ _ => False) (fun _ _ _ => False) (fun xs => xs = []) ?hI ?hIx ?h0 ?it ?rd ?dn ?st
  case hI =>
    rintro s X Y ⟨h1, h2, h3⟩ hr
    exact ⟨hr.at h1, hr.cell1 h2, hr.below h3 (by rw [EB.out]; exact Nat.le_refl _) (by rw [← EB.out]; exact G0.out.size)⟩
  case hIx => exact fun _ _ _ _ h _ => h.elim
  case h0 => exact ⟨H1.out.1, H1.out.2, by rw [← EB.out]; exact G0.out⟩
  case it => exact tall_nil_tells w1 _ _ _ (fun s X h => h.2.1)
  case rd => exact fun _ _ _ _ _ _ _ h => h.elim
  case st => exact fun _ _ _ _ _ h => h.elim
  case dn =>
    rintro D xs W hD rfl ⟨h1, h2, h3⟩ hdf
    obtain ⟨b2, -⟩ := cell_in h1 0 rfl
    have HD := Lib.hid (And.intro h3 (And.intro hdf hD))
    clear h1 h2 h3 hdf hD
    go_wp2_with fail
    obtain ⟨h3, hdf, hD⟩ := HD.out
    refine ⟨by simp, .inl ⟨_, _, rfl, run_takeDeferred hdf, ?_⟩⟩
    refine ⟨.int .i64 0, by simp [results, Try.results38, go_sem], rfl, ?_⟩
    have := (Rec.put (.deferred none) hD hdf rfl).below h3 (by rw [EB.out]; exact Nat.le_refl _) (by rw [← EB.out]; exact G0.out.size)
    rw [← EB.out] at this
    exact this

theorem tableNil_walk (k : KW) (w : World) :
    Calls Try.prog 8 #[k.val] w (RetV w (.bool true)) := by
  have HW := Lib.hid (fun W => tworks_any W)
  have HAL := Lib.hid (fun W => tall_any (.pointer none) (.inl rfl) W)
  have qn := fun (W : World) f cs => run_neq_func_nil (P := Try.prog) W 42 f cs Try.underlying42
  refine calls_of_wp_marks Try.func8 rfl ?_
  simp only [Try.ntmps8, List.size_toArray, List.length_cons, List.length_nil, Nat.reduceAdd, Nat.reduceSub, Array.replicate_succ, Array.replicate_zero, List.push_toArray, List.append_toArray, List.nil_append, List.cons_append]
  go_wp2_with fail
  refine (HAL.out _).mono ?_
  rintro e w1 ⟨rfl, hg1, hc1⟩
  have q := two_new w (.cells #[.int .i64 k.t, .int .i64 k.f, .int .u32 k.s] 29) (.cells #[.bool false] 4)
  have q0 := (hg1.block w.heap.size (by simp; omega)).trans q.1
  have q1 := (hg1.block (w.heap.size + 1) (by simp)).trans q.2
  simp only [World.size_alloc] at hc1
  have hb1 : Below w.heap.size w w1 := (bl_alloc (bl_alloc (Below.refl _ _) _) _).trans ((hg1 : Below _ _ _).mono (by simp; omega))
  have Q0 := Lib.hid (And.intro q0 (And.intro q1 (And.intro hc1 hb1)))
  clear hg1 hc1 q q0 q1 hb1
  go_wp2_with fail
  refine wp_range2 (α := KW × Value) rfl (enters_of Try.func67 (by kernel_rfl) rfl) rowV (fun _ => rfl) (fun _ => False) (fun _ h => h.elim)
    (fun _ W => W.heap[w.heap.size]? = some (.cells #[.int .i64 k.t, .int .i64 k.f, .int .u32 k.s] 29 (0, 0)) ∧ W.heap[w.heap.size + 1]? = some (.cells #[.bool false] 4 (0, 0)) ∧
      W.cell? ⟨w.heap.size + 1 + 1, 0, none⟩ = some (.pointer none) ∧ Below w.heap.size w W)
    (fun _ _ _ => False) (fun _ _ _ => False) (fun xs => xs = []) ?hI ?hIx ?h0 ?it ?rd ?dn ?st
  case hI =>
    rintro s X Y ⟨h1, h2, h3, h4⟩ hr
    exact ⟨hr.at h1, hr.at h2, hr.cell1 h3, hr.below h4 (Nat.le_refl _) Q0.out.2.2.2.size⟩
  case hIx => exact fun _ _ _ _ h _ => h.elim
  case h0 => exact Q0.out
  case it => exact tall_nil_tells w1 _ _ _ (fun s X h => h.2.2.1)
  case rd => exact fun _ _ _ _ _ _ _ h => h.elim
  case st => exact fun _ _ _ _ _ h => h.elim
  case dn =>
    rintro D xs W hD rfl ⟨h1, h2, h3, h4⟩ hdf
    have hsz : w.heap.size + 2 ≤ W.heap.size := by have := (Array.getElem?_eq_some_iff.1 h2).1; omega
    obtain ⟨p0, -⟩ := cell_in h1 0 rfl
    obtain ⟨p1, -⟩ := cell_in h1 1 rfl
    obtain ⟨p2, -⟩ := cell_in h1 2 rfl
    have H4 := Lib.hid (And.intro h4 (And.intro h1 (And.intro h2 (And.intro hdf hsz))))
    have HD := Lib.hid (Nat.le_trans Q0.out.2.2.2.size hD)
    clear Q0 h1 h2 h3 h4 hdf hD
    have HCL := Lib.hid (fun W => nclear_any W)
    have HGE := Lib.hid (fun W => nget_any k W)
    have HMI := Lib.hid (fun W => nmin_any W)
    have HPO := Lib.hid (fun W => npop_any W)
    have HPU := Lib.hid (fun W => nput_any k (.int .i64 1) W)
    have HDE := Lib.hid (fun W => ndel_any k W)
    have HLE := Lib.hid (fun W => nlen_any W)
    have HRO := Lib.hid (fun W => nroom_any W)
    have HDR := Lib.hid (fun W => tdrop_nil 39 #[] W)
    go_wp2_with fail
    refine (HCL.out _).mono ?_
    rintro e w2 ⟨rfl, rfl⟩
    go_wp2_with fail
    refine (HGE.out _).mono ?_
    rintro e w3 ⟨rfl, hg3⟩
    go_wp2_with fail
    refine (HMI.out _).mono ?_
    rintro e w4 ⟨rfl, hg4⟩
    have G4 := Lib.hid (grows_trans _ _ _ hg3 hg4)
    clear hg3 hg4
    simp only [KW.val]
    go_wp2_with fail
    refine (HPO.out _).mono ?_
    rintro e w5 ⟨rfl, hg5⟩
    have G5 := Lib.hid (grows_trans _ _ _ (grows_trans _ _ _ G4.out (bl_alloc (Below.refl _ _) _ : Grows w4 _)) hg5)
    clear hg5 G4
    have p0 := box_cell_grows p0 G5.out
    have p1 := box_cell_grows p1 G5.out
    have p2 := box_cell_grows p2 G5.out
    have hl0 : w.heap.size < w5.heap.size := block_lt_of_cell p0
    simp only [KW.val]
    go_wp2_with fail
    refine (HPU.out _).mono ?_
    rintro e w6 ⟨rfl, hg6⟩
    have G56 := Lib.hid (grows_trans _ _ _ (bl_alloc (Below.refl _ _) _ : Grows w5 _) hg6)
    clear hg6
    have p0 := box_cell_grows p0 G56.out
    have p1 := box_cell_grows p1 G56.out
    have p2 := box_cell_grows p2 G56.out
    have hl0 : w.heap.size < w6.heap.size := block_lt_of_cell p0
    go_wp2_with fail
    refine (HDE.out _).mono ?_
    rintro e w7 ⟨rfl, hg7⟩
    have G7 := Lib.hid (grows_trans _ _ _ (grows_trans _ _ _ G5.out G56.out) hg7)
    clear hg7 p0 p1 p2 G5 G56
    go_wp2_with fail
    refine (HLE.out _).mono ?_
    rintro e w8 ⟨rfl, rfl⟩
    go_wp2_with fail
    refine (HRO.out _).mono ?_
    rintro e w8 ⟨rfl, rfl⟩
    go_wp2_with fail
    refine (HDR.out _).mono ?_
    rintro e w8 ⟨rfl, hg8⟩
    have G8 := Lib.hid (grows_trans _ _ _ G7.out hg8)
    clear hg8 G7
    go_wp2_with fail
    refine (HW.out _).mono ?_
    rintro e w9 ⟨rfl, hg9⟩
    have G9 := Lib.hid (grows_trans _ _ _ G8.out hg9)
    clear hg9 G8
    obtain ⟨h4, h1, h2, hdf, hsz⟩ := H4.out
    have h5 := G9.out
    obtain ⟨p5, p6⟩ := cell_in (box_grows h2 h5) 0 rfl
    have hl5 : w.heap.size + 1 < w9.heap.size := box_lt (box_grows h2 h5)
    have H6 := Lib.hid (And.intro (h4.trans ((h5 : Below _ _ _).mono (Nat.le_trans (Nat.le_add_right _ 2) hsz))) (box_grows hdf h5))
    clear h5 h4 h1 h2 hdf hsz
    go_wp2_with fail
    obtain ⟨h4, hdf⟩ := H6.out
    have hc5 := World.cell?_setCell_same' w9 ⟨w.heap.size + 1, 0, none⟩ (.bool true) (by rw [p5]; rfl)
    have hD5 : (w9.setCell ⟨w.heap.size + 1, 0, none⟩ (.bool true)).heap[D]? = some (.deferred (some [])) := (KeepsOthers.setCell w9 ⟨w.heap.size + 1, 0, none⟩ (.bool true)).same D _ hdf rfl
    refine ⟨by simp, .inl ⟨_, _, rfl, run_takeDeferred hD5, ?_⟩⟩
    have hc6 := cell_kept hc5 (grownBy_putObj' _ D (.deferred none)) (fun r e => by cases e; exact ⟨_, hD5, rfl⟩)
    refine ⟨.bool true, by simp [results, Try.results8, go_sem, hc6], rfl, ?_⟩
    exact (Rec.put _ HD.out hD5 rfl).below (bl_set h4 (Nat.le_succ _) _) (Nat.le_refl _) (Nat.le_refl _)
end Go.Proofs.Ytdmmceclohkkdaa
