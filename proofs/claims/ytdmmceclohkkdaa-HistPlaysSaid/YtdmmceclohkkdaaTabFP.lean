/- A table's Pop, at rows of api.Packet. -/
import Derived.Test.YtdmmceclohkkdaaTabEP
namespace Go.Proofs.Ytdmmceclohkkdaa
open Go.RowKit Go.Sort
set_option maxHeartbeats 4000000
set_option maxRecDepth 100000
/-- The two results' boxes, and the two that hold what Min told. -/
structure PopBx (W : World) (b c : Nat) (k : KW) (x : PW) : Prop where
  r0 : W.heap[b]? = some (KC ⟨0, 0, 0⟩ : Obj)
  r1 : W.heap[b + 1]? = some (.cells pz.cells TPK (0, 0))
  m0 : W.heap[c]? = some (KC k : Obj)
  m1 : W.heap[c + 1]? = some (.cells x.cells TPK (0, 0))
theorem Chg.fresh {S U : Nat → Prop} {w W W' : World} (h : Chg S w W) (hc : Chg U W W') (hU : ∀ j, U j → w.heap.size ≤ j) : Chg S w W' :=
  ⟨hc.os.trans h.os, hc.tape.trans h.tape, hc.output.trans h.output, Nat.le_trans h.size hc.size, fun k hk hs => (hc.block k (Nat.lt_of_lt_of_le hk h.size) (fun hu => Nat.lt_irrefl _ (Nat.lt_of_lt_of_le hk (hU k hu)))).trans (h.block k hk hs)⟩
theorem delT_headP {k : KW} {v : Value} {m : List (KW × Value)} (hr : Rises (((k, v) :: m).map (·.1))) : delT ((k, v) :: m) k = m := by
  have hn := (List.nodup_cons.1 hr.nodup).1
  simp only [delT, List.filter_cons, ne_eq, not_true_eq_false, decide_false, Bool.false_eq_true, if_false]
  exact List.filter_eq_self.2 (fun p hp => by simp; intro e; exact hn (by rw [← e]; exact List.mem_map_of_mem (f := (·.1)) hp))
theorem popBx {w w2 : World} {k : KW} {x : PW} (hg2 : Grows ((w.alloc (KC ⟨0, 0, 0⟩)).alloc (.cells pz.cells TPK)) w2) : PopBx ((w2.alloc (KC k)).alloc (.cells x.cells TPK)) w.heap.size w2.heap.size k x ∧ w.heap.size + 1 < w2.heap.size ∧ Grows w ((w2.alloc (KC k)).alloc (.cells x.cells TPK)) ∧ Grows w w2 := by
  have h1 := two_new w (KC ⟨0, 0, 0⟩) (.cells pz.cells TPK)
  have h2 := two_new w2 (KC k) (.cells x.cells TPK)
  have g : Grows w2 ((w2.alloc (KC k)).alloc (.cells x.cells TPK)) := bl_alloc (bl_alloc (Below.refl _ _) _) _
  have g0 : Grows w ((w.alloc (KC ⟨0, 0, 0⟩)).alloc (.cells pz.cells TPK)) := bl_alloc (bl_alloc (Below.refl _ _) _) _
  exact ⟨⟨box_grows (box_grows h1.1 hg2) g, box_grows (box_grows h1.2 hg2) g, h2.1, h2.2⟩, box_lt (box_grows h1.2 hg2), grows_trans _ _ _ g0 (grows_trans _ _ _ hg2 g), grows_trans _ _ _ g0 hg2⟩
theorem tpop_noneP {w : World} {base tb mb : Nat} {kv : Value} {most : Nat} (h : TabAt TTP w base tb kv mb [] most) :
    Calls Try.prog 80 #[.pointer (some ⟨tb, 0, none⟩)] w (TabTo TTP w base tb kv mb [] most (.tuple #[KW.val ⟨0, 0, 0⟩, PZ, .bool false])) := by
  have hgb : Grows w ((w.alloc (KC ⟨0, 0, 0⟩)).alloc (.cells pz.cells TPK)) := bl_alloc (bl_alloc (Below.refl _ _) _) _
  have HE := Lib.hid (fun w' hg => TabTo.same (r := .tuple #[KW.val ⟨0, 0, 0⟩, PZ, .bool false]) h (w' := w') hg)
  have HM := Lib.hid (tmin_noneP (h.grows hgb))
  clear h hgb
  go_enter Try.func80, Try.ntmps80
  go_wp2_with fail
  refine (HM.out).mono ?_
  rintro e w2 ⟨rfl, hg2⟩
  obtain ⟨hb, hlt, hg3, hg02⟩ := popBx (k := ⟨0, 0, 0⟩) (x := pz) hg2
  have HB := Lib.hid (And.intro hb (And.intro hlt hg3))
  clear hb hlt hg3 hg02 hg2
  simp only [KW.val, PW.val, PW.cells, PW.body]
  go_wp2_with fail
  obtain ⟨hb, hlt, hg3⟩ := HB.out
  obtain ⟨b, eb⟩ : ∃ b, w.heap.size = b := ⟨_, rfl⟩
  obtain ⟨c, ec⟩ : ∃ c, w2.heap.size = c := ⟨_, rfl⟩
  obtain ⟨W3, e3⟩ : ∃ W3, (w2.alloc (KC ⟨0, 0, 0⟩)).alloc (.cells pz.cells TPK) = W3 := ⟨_, rfl⟩
  rw [e3, eb, ec] at hb
  rw [e3] at hg3
  rw [eb, ec] at hlt
  simp only [KC, PW.cells, PW.body] at e3
  rw [eb, ec, e3]
  obtain ⟨⟨u0, u1, u2⟩, ⟨v0, v1, v2⟩⟩ := two_store (k := ⟨0, 0, 0⟩) (x := pz) (y := pz) hb.r0 hb.r1
  have hgA : Grows w (st12 (st3 W3 b ⟨0, 0, 0⟩) (b + 1) pz) := grows_of_chg hg3 u2 (fun j hj => by rw [eb]; rcases hj with rfl | rfl; exact Nat.le_refl _; exact Nat.le_succ _)
  have hgB : Grows w (st3 (st12 W3 (b + 1) pz) b ⟨0, 0, 0⟩) := grows_of_chg hg3 v2 (fun j hj => by rw [eb]; rcases hj with rfl | rfl; exact Nat.le_refl _; exact Nat.le_succ _)
  obtain ⟨WA, eA⟩ : ∃ WA, st12 (st3 W3 b ⟨0, 0, 0⟩) (b + 1) pz = WA := ⟨_, rfl⟩
  obtain ⟨WB, eB⟩ : ∃ WB, st3 (st12 W3 (b + 1) pz) b ⟨0, 0, 0⟩ = WB := ⟨_, rfl⟩
  rw [eA] at u0 u1 hgA
  rw [eB] at v0 v1 hgB
  simp only [st12, st3, PW.body] at eA eB
  have HGA := Lib.hid hgA
  have HGB := Lib.hid hgB
  obtain ⟨s0, f0⟩ := cell_in hb.r0 0 rfl
  obtain ⟨s1, f1⟩ := cell_in hb.r0 1 rfl
  obtain ⟨s2, f2⟩ := cell_in hb.r0 2 rfl
  obtain ⟨x0, x1, x2, x3, x4, x5, x6, x7, x8, x9, x10, x11, x12⟩ := pat_of hb.r1
  obtain ⟨y0, y1, y2, y3, y4, y5, y6, y7, y8, y9, y10, y11⟩ := pfree_of hb.r1
  obtain ⟨m0, -⟩ := cell_in hb.m0 0 rfl
  obtain ⟨m1, -⟩ := cell_in hb.m0 1 rfl
  obtain ⟨m2, -⟩ := cell_in hb.m0 2 rfl
  obtain ⟨n0, n1, n2, n3, n4, n5, n6, n7, n8, n9, n10, n11, n12⟩ := pat_of hb.m1
  have z1 := box_lt hb.r0
  have z2 := box_lt hb.m0
  have U := Lib.hid (And.intro u0 u1)
  have V := Lib.hid (And.intro v0 v1)
  have q1 : (c = b) = False := eq_false (by omega)
  have q2 : (b = c) = False := eq_false (by omega)
  have q3 : (c + 1 = b) = False := eq_false (by omega)
  have q4 : (b = c + 1) = False := eq_false (by omega)
  have q5 : (c = b + 1) = False := eq_false (by omega)
  have q6 : (b + 1 = c) = False := eq_false (by omega)
  have q7 : (b + 1 = c + 1) = False := eq_false (by omega)
  clear hb hlt hg3 e3 u0 u1 u2 v0 v1 v2 hgA hgB
  have mixed : Try.prog.follows .mixedOrders = true := by kernel_rfl
  go_region_law (fail)
  all_goals (
    go_wp2_with fail
    first
      | (obtain ⟨u0, u1⟩ := U.out
         have k0 := (cell_in u0 0 rfl).1
         have k1 := (cell_in u0 1 rfl).1
         have k2 := (cell_in u0 2 rfl).1
         obtain ⟨i0, i1, i2, i3, i4, i5, i6, i7, i8, i9, i10, i11, i12⟩ := pat_of u1
         exact bodyPost_ret (v := .tuple #[KW.val ⟨0, 0, 0⟩, pz.val, .bool false]) (by simp [results, Try.results80, go_sem, k0, k1, k2, i0, i1, i2, i3, i4, i5, i6, i7, i8, i9, i10, i11]) rfl (HE.out _ (bl_drew HGA.out)))
      | (obtain ⟨u0, u1⟩ := V.out
         have k0 := (cell_in u0 0 rfl).1
         have k1 := (cell_in u0 1 rfl).1
         have k2 := (cell_in u0 2 rfl).1
         obtain ⟨i0, i1, i2, i3, i4, i5, i6, i7, i8, i9, i10, i11, i12⟩ := pat_of u1
         exact bodyPost_ret (v := .tuple #[KW.val ⟨0, 0, 0⟩, pz.val, .bool false]) (by simp [results, Try.results80, go_sem, k0, k1, k2, i0, i1, i2, i3, i4, i5, i6, i7, i8, i9, i10, i11]) rfl (HE.out _ (bl_drew HGB.out))))
theorem tpop_someP {w : World} {base tb mb : Nat} {kv : Value} {most : Nat} {k : KW} {x : PW} {m : List (KW × Value)} (h : TabAt TTP w base tb kv mb ((k, x.val) :: m) most) :
    Calls Try.prog 80 #[.pointer (some ⟨tb, 0, none⟩)] w (TabTo TTP w base tb kv mb m most (.tuple #[k.val, x.val, .bool true])) := by
  have hgb : Grows w ((w.alloc (KC ⟨0, 0, 0⟩)).alloc (.cells pz.cells TPK)) := bl_alloc (bl_alloc (Below.refl _ _) _) _
  have HM := Lib.hid (tmin_someP (h.grows hgb))
  have HH := Lib.hid h
  have hh : getK ((k, x.val) :: m) k = some x.val := by rw [getK_cons, if_pos rfl]
  have HD := Lib.hid (fun W' (hg : Grows w W') => by
    have h1 := tdel_okP k x (h.grows hg) hh
    rwa [delT_headP h.rises] at h1)
  clear h hgb hh
  go_enter Try.func80, Try.ntmps80
  go_wp2_with fail
  refine (HM.out).mono ?_
  rintro e w2 ⟨rfl, hg2⟩
  obtain ⟨hb, hlt, hg3, hg02⟩ := popBx (k := k) (x := x) hg2
  have HB := Lib.hid (And.intro hb (And.intro hlt (And.intro hg3 hg02)))
  clear hb hlt hg3 hg02 hg2
  simp only [KW.val, PW.val, PW.cells, PW.body]
  go_wp2_with fail
  obtain ⟨hb, hlt, hg3, hg02⟩ := HB.out
  obtain ⟨b, eb⟩ : ∃ b, w.heap.size = b := ⟨_, rfl⟩
  obtain ⟨c, ec⟩ : ∃ c, w2.heap.size = c := ⟨_, rfl⟩
  obtain ⟨w3, e3⟩ : ∃ w3, (w2.alloc (KC k)).alloc (.cells x.cells TPK) = w3 := ⟨_, rfl⟩
  rw [e3, eb, ec] at hb
  rw [e3] at hg3
  rw [eb, ec] at hlt
  simp only [KC, PW.cells, PW.body] at e3
  rw [eb, ec, e3]
  refine (HD.out w3 hg3).mono ?_
  rintro e W3 ⟨rfl, kv', h3, hc3, hf3⟩
  have hb1 := hb
  have hnS : ∀ j, b ≤ j → ¬ TabS tb kv mb j := fun j hj hs => by
    rw [← eb] at hj
    rcases hs with rfl | rfl | hs
    · exact Nat.lt_irrefl _ (Nat.lt_of_lt_of_le HH.out.lt hj)
    · exact Nat.lt_irrefl _ (Nat.lt_of_lt_of_le HH.out.mlt hj)
    · exact Nat.lt_irrefl _ (Nat.lt_of_lt_of_le (HH.out.own.lt _ hs).2 hj)
  have hb : PopBx W3 b c k x := ⟨box_chg hb.r0 hc3 (hnS _ (Nat.le_refl _)), box_chg hb.r1 hc3 (hnS _ (Nat.le_succ _)), box_chg hb.m0 hc3 (hnS _ (by omega)), box_chg hb.m1 hc3 (hnS _ (by omega))⟩
  obtain ⟨⟨u0, u1, u2⟩, ⟨v0, v1, v2⟩⟩ := two_store (k := k) (x := x) (y := pz) hb.r0 hb.r1
  obtain ⟨WA, eA⟩ : ∃ WA, st12 (st3 W3 b k) (b + 1) x = WA := ⟨_, rfl⟩
  obtain ⟨WB, eB⟩ : ∃ WB, st3 (st12 W3 (b + 1) x) b k = WB := ⟨_, rfl⟩
  rw [eA] at u0 u1 u2
  rw [eB] at v0 v1 v2
  have hend : ∀ Wx, Chg (fun j => j = b ∨ j = b + 1) W3 Wx → TabTo TTP w base tb kv mb m most (.tuple #[k.val, x.val, .bool true]) (.returned (.tuple #[k.val, x.val, .bool true])) Wx.drew := fun Wx hcx => by
    have gd : Grows Wx Wx.drew := bl_drew (Below.refl _ _)
    refine ⟨rfl, kv', (h3.chg hcx (fun e => ?_) (fun e => ?_) (fun j hj e => ?_)).grows gd, Chg.fresh ((Chg.ofGrows hg3).trans hc3) (hcx.trans (Chg.ofGrows gd)) (fun j hj => ?_), fun j hj => ?_⟩
    · have := HH.out.lt; omega
    · have := HH.out.mlt; omega
    · rcases hf3 j hj with h9 | h9
      · have := (HH.out.own.lt _ h9).2; omega
      · have := box_lt hb1.r1; omega
    · rw [eb]; rcases hj with rfl | rfl
      · exact Nat.le_refl _
      · exact Nat.le_succ _
    · rcases hf3 j hj with h9 | h9
      · exact .inl h9
      · exact .inr (Nat.le_trans hg3.size h9)
  have HEA := Lib.hid (hend _ u2)
  have HEB := Lib.hid (hend _ v2)
  simp only [st12, st3, PW.body] at eA eB
  obtain ⟨s0, f0⟩ := cell_in hb.r0 0 rfl
  obtain ⟨s1, f1⟩ := cell_in hb.r0 1 rfl
  obtain ⟨s2, f2⟩ := cell_in hb.r0 2 rfl
  obtain ⟨x0, x1, x2, x3, x4, x5, x6, x7, x8, x9, x10, x11, x12⟩ := pat_of hb.r1
  obtain ⟨y0, y1, y2, y3, y4, y5, y6, y7, y8, y9, y10, y11⟩ := pfree_of hb.r1
  obtain ⟨m0, -⟩ := cell_in hb.m0 0 rfl
  obtain ⟨m1, -⟩ := cell_in hb.m0 1 rfl
  obtain ⟨m2, -⟩ := cell_in hb.m0 2 rfl
  obtain ⟨n0, n1, n2, n3, n4, n5, n6, n7, n8, n9, n10, n11, n12⟩ := pat_of hb.m1
  have z1 := box_lt hb.r0
  have z2 := box_lt hb.m0
  have U := Lib.hid (And.intro u0 u1)
  have V := Lib.hid (And.intro v0 v1)
  have q1 : (c = b) = False := eq_false (by omega)
  have q2 : (b = c) = False := eq_false (by omega)
  have q3 : (c + 1 = b) = False := eq_false (by omega)
  have q4 : (b = c + 1) = False := eq_false (by omega)
  have q5 : (c = b + 1) = False := eq_false (by omega)
  have q6 : (b + 1 = c) = False := eq_false (by omega)
  have q7 : (b + 1 = c + 1) = False := eq_false (by omega)
  clear hb hlt hg3 hg02 e3 u0 u1 u2 v0 v1 v2 h3 hc3 hf3 hnS hb1 hend
  go_wp2_with fail
  have mixed : Try.prog.follows .mixedOrders = true := by kernel_rfl
  go_region_law (fail)
  all_goals (
    go_wp2_with fail
    first
      | (obtain ⟨u0, u1⟩ := U.out
         have k0 := (cell_in u0 0 rfl).1
         have k1 := (cell_in u0 1 rfl).1
         have k2 := (cell_in u0 2 rfl).1
         obtain ⟨i0, i1, i2, i3, i4, i5, i6, i7, i8, i9, i10, i11, i12⟩ := pat_of u1
         exact bodyPost_ret (v := .tuple #[k.val, x.val, .bool true]) (by simp [results, Try.results80, go_sem, k0, k1, k2, i0, i1, i2, i3, i4, i5, i6, i7, i8, i9, i10, i11]) rfl (HEA.out))
      | (obtain ⟨u0, u1⟩ := V.out
         have k0 := (cell_in u0 0 rfl).1
         have k1 := (cell_in u0 1 rfl).1
         have k2 := (cell_in u0 2 rfl).1
         obtain ⟨i0, i1, i2, i3, i4, i5, i6, i7, i8, i9, i10, i11, i12⟩ := pat_of u1
         exact bodyPost_ret (v := .tuple #[k.val, x.val, .bool true]) (by simp [results, Try.results80, go_sem, k0, k1, k2, i0, i1, i2, i3, i4, i5, i6, i7, i8, i9, i10, i11]) rfl (HEB.out)))
end Go.Proofs.Ytdmmceclohkkdaa
