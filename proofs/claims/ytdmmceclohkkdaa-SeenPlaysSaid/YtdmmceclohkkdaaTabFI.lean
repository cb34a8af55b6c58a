/- A table's Pop, at rows of int64. -/
import Derived.Test.YtdmmceclohkkdaaTabEI
namespace Go.Proofs.Ytdmmceclohkkdaa
open Go.RowKit Go.Sort
set_option maxHeartbeats 4000000
set_option maxRecDepth 100000
theorem tpop_noneI {w : World} {base tb mb : Nat} {kv : Value} {most : Nat} (h : TabAt TTI w base tb kv mb [] most) :
    Calls Try.prog 18 #[.pointer (some ⟨tb, 0, none⟩)] w (TabTo TTI w base tb kv mb [] most (.tuple #[KW.val ⟨0, 0, 0⟩, .int .i64 0, .bool false])) := by
  have hgb : Grows w (w.alloc (.cells #[.int .i64 0, .int .i64 0, .int .u32 0] 29)) := bl_alloc (Below.refl _ _) _
  have hbx := heap_alloc_new w (.cells #[.int .i64 0, .int .i64 0, .int .u32 0] 29)
  have HE := Lib.hid (fun w' hg => TabTo.same (r := .tuple #[KW.val ⟨0, 0, 0⟩, .int .i64 0, .bool false]) h (w' := w') hg)
  have HM := Lib.hid (tmin_noneI (h.grows hgb))
  have HG := Lib.hid hgb
  have HBX := Lib.hid hbx
  clear h hgb hbx
  go_enter Try.func18, Try.ntmps18
  go_wp2_with fail
  refine (HM.out).mono ?_
  rintro e w2 ⟨rfl, hg2⟩
  have hbx2 := box_grows HBX.out hg2
  obtain ⟨s0, f0⟩ := cell_in hbx2 0 rfl
  obtain ⟨s1, f1⟩ := cell_in hbx2 1 rfl
  obtain ⟨s2, f2⟩ := cell_in hbx2 2 rfl
  obtain ⟨w5, e5⟩ : ∃ w5, ((w2.setCell ⟨w.heap.size, 0, none⟩ (.int .i64 0)).setCell ⟨w.heap.size, 1, none⟩ (.int .i64 0)).setCell ⟨w.heap.size, 2, none⟩ (.int .u32 0) = w5 := ⟨_, rfl⟩
  have b5 : w5.heap[w.heap.size]? = some (.cells #[.int .i64 0, .int .i64 0, .int .u32 0] 29 (0, 0)) := by rw [← e5]; exact box_setj (box_setj (box_setj hbx2))
  have hg5 : Grows w w5 := by
    rw [← e5]
    have h10 : Below w.heap.size w w2 := grows_trans _ _ _ HG.out hg2
    exact bl_set (bl_set (bl_set h10 (Nat.le_refl _) _) (Nat.le_refl _) _) (Nat.le_refl _) _
  obtain ⟨q0, -⟩ := cell_in b5 0 rfl
  obtain ⟨q1, -⟩ := cell_in b5 1 rfl
  obtain ⟨q2, -⟩ := cell_in b5 2 rfl
  have z1 := box_lt hbx2
  have z5 := box_lt b5
  have HG2 := Lib.hid hg5
  clear hg2 hbx2 b5 hg5
  go_wp2_with fail
  exact bodyPost_ret (v := .tuple #[KW.val ⟨0, 0, 0⟩, .int .i64 0, .bool false]) (by simp [results, Try.results18, go_sem, e5, q0, q1, q2, z5]) rfl (HE.out _ (by first | exact HG2.out | exact bl_alloc HG2.out _ | (rw [e5]; exact bl_alloc HG2.out _)))
theorem delT_head {k : KW} {v : Value} {m : List (KW × Value)} (hr : Rises (((k, v) :: m).map (·.1))) : delT ((k, v) :: m) k = m := by
  have hn := (List.nodup_cons.1 hr.nodup).1
  simp only [delT, List.filter_cons, ne_eq, not_true_eq_false, decide_false, Bool.false_eq_true, if_false]
  exact List.filter_eq_self.2 (fun p hp => by simp; intro e; exact hn (by rw [← e]; exact List.mem_map_of_mem (f := (·.1)) hp))
theorem tpop_someI {w : World} {base tb mb : Nat} {kv : Value} {most : Nat} {k : KW} {v : Value} {m : List (KW × Value)} (h : TabAt TTI w base tb kv mb ((k, v) :: m) most) :
    Calls Try.prog 18 #[.pointer (some ⟨tb, 0, none⟩)] w (TabTo TTI w base tb kv mb m most (.tuple #[k.val, v, .bool true])) := by
  have hgb : Grows w (w.alloc (.cells #[.int .i64 0, .int .i64 0, .int .u32 0] 29)) := bl_alloc (Below.refl _ _) _
  have hbx := heap_alloc_new w (.cells #[.int .i64 0, .int .i64 0, .int .u32 0] 29)
  have HM := Lib.hid (tmin_someI (h.grows hgb))
  have HG := Lib.hid hgb
  have HBX := Lib.hid hbx
  have HH := Lib.hid h
  clear h hgb hbx
  go_enter Try.func18, Try.ntmps18
  go_wp2_with fail
  refine (HM.out).mono ?_
  rintro e w2 ⟨rfl, hg2⟩
  have hga := grows_trans _ _ _ HG.out hg2
  have hgb : Grows w2 (w2.alloc (.cells #[.int .i64 k.t, .int .i64 k.f, .int .u32 k.s] 29)) := bl_alloc (Below.refl _ _) _
  have hdel := tdelI k ((HH.out.grows hga).grows hgb)
  have hh : (getK ((k, v) :: m) k).isSome = true := by rw [getK_cons, if_pos rfl]; rfl
  rw [hh, if_pos rfl, delT_head HH.out.rises] at hdel
  have HD := Lib.hid hdel
  have hbx2 := box_grows (box_grows HBX.out hg2) hgb
  have hky := heap_alloc_new w2 (.cells #[.int .i64 k.t, .int .i64 k.f, .int .u32 k.s] 29)
  have HK := Lib.hid (And.intro hbx2 (And.intro hky (grows_trans _ _ _ hga hgb)))
  have hsz : w.heap.size < w2.heap.size := box_lt (box_grows HBX.out hg2)
  clear hg2 hga hgb hdel hh hbx2 hky
  go_wp2_with fail
  refine (HD.out).mono ?_
  rintro e w3 ⟨rfl, kv', h3, hc3, hf3⟩
  obtain ⟨hbx2, hky, hgw⟩ := HK.out
  have hnS : ∀ j, w.heap.size ≤ j → ¬ TabS tb kv mb j := fun j hj hs => by
    rcases hs with rfl | rfl | hs
    · exact Nat.lt_irrefl _ (Nat.lt_of_lt_of_le HH.out.lt hj)
    · exact Nat.lt_irrefl _ (Nat.lt_of_lt_of_le HH.out.mlt hj)
    · exact Nat.lt_irrefl _ (Nat.lt_of_lt_of_le (HH.out.own.lt _ hs).2 hj)
  have b1 := box_chg hbx2 hc3 (hnS _ (Nat.le_refl _))
  have b2 := box_chg hky hc3 (hnS _ (Nat.le_of_lt hsz))
  obtain ⟨s0, f0⟩ := cell_in b1 0 rfl
  obtain ⟨s1, f1⟩ := cell_in b1 1 rfl
  obtain ⟨s2, f2⟩ := cell_in b1 2 rfl
  obtain ⟨t0, -⟩ := cell_in b2 0 rfl
  obtain ⟨t1, -⟩ := cell_in b2 1 rfl
  obtain ⟨t2, -⟩ := cell_in b2 2 rfl
  obtain ⟨w5, e5⟩ : ∃ w5, ((w3.setCell ⟨w.heap.size, 0, none⟩ (.int .i64 k.t)).setCell ⟨w.heap.size, 1, none⟩ (.int .i64 k.f)).setCell ⟨w.heap.size, 2, none⟩ (.int .u32 k.s) = w5 := ⟨_, rfl⟩
  have hc5 : Chg (fun j => j = w.heap.size) w3 w5 := by
    rw [← e5]
    exact Chg.setCell (S := fun j => j = w.heap.size) (Chg.setCell (S := fun j => j = w.heap.size) (Chg.setCell (S := fun j => j = w.heap.size) (Chg.refl _ _) _ (.inr rfl)) _ (.inr rfl)) _ (.inr rfl)
  have b5 : w5.heap[w.heap.size]? = some (.cells #[.int .i64 k.t, .int .i64 k.f, .int .u32 k.s] 29 (0, 0)) := by rw [← e5]; exact box_setj (box_setj (box_setj b1))
  obtain ⟨q0, -⟩ := cell_in b5 0 rfl
  obtain ⟨q1, -⟩ := cell_in b5 1 rfl
  obtain ⟨q2, -⟩ := cell_in b5 2 rfl
  have hown : ∀ j, kv'.ownBlock = some j → kv.ownBlock = some j ∨ w2.heap.size < j ∨ w2.heap.size = j ∧ False := fun j hj => by
    rcases hf3 j hj with h9 | h9
    · exact .inl h9
    · simp at h9; exact .inr (.inl (by omega))
  have h5 := h3.chg hc5 (fun e => Nat.lt_irrefl _ (by have := HH.out.lt; rwa [e] at this)) (fun e => Nat.lt_irrefl _ (by have := HH.out.mlt; rwa [e] at this)) (fun j hj e => by
    rcases hown j hj with h9 | h9 | h9
    · have := (HH.out.own.lt _ h9).2; omega
    · omega
    · exact h9.2)
  have hend : TabTo TTI w base tb kv mb m most (.tuple #[k.val, v, .bool true]) (.returned (.tuple #[k.val, v, .bool true])) w5 := by
    refine ⟨rfl, kv', h5, ?_, fun j hj => ?_⟩
    · have hc := Chg.trans (Chg.ofGrows hgw) hc3
      rw [← e5]
      exact Chg.setCell (Chg.setCell (Chg.setCell hc _ (.inl (Nat.le_refl _))) _ (.inl (Nat.le_refl _))) _ (.inl (Nat.le_refl _))
    · rcases hown j hj with h9 | h9 | h9
      · exact .inl h9
      · exact .inr (by omega)
      · exact h9.2.elim
  have HE := Lib.hid hend
  clear hend h5 hown b5 hc5 b1 b2 hnS hgw hky hbx2 h3 hc3 hf3
  go_wp2_with fail
  exact bodyPost_ret (v := .tuple #[k.val, v, .bool true]) (by simp [results, Try.results18, go_sem, q0, q1, q2]) rfl HE.out
end Go.Proofs.Ytdmmceclohkkdaa
