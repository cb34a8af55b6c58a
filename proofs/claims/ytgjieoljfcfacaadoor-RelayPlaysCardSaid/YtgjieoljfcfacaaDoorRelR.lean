/- A call, of both: Expire. -/
import Derived.Test.YtgjieoljfcfacaaDoorRelL
namespace Go.Proofs.YtgjieoljfcfacaaDoor
open Go.RowKit Go.Sort
set_option maxHeartbeats 4000000
set_option maxRecDepth 100000
theorem over_keep (e : Int) (l : List DR) : (l.map tv).filter (fun p => !overD e p) = (l.filter (keepE e)).map tv := by
  rw [List.filter_map]
  congr 1
  refine List.filter_congr fun p _ => ?_
  simp only [Function.comp, overD, keepE, tv, intOf]
  by_cases h : p.2 < e
  · simp [h, Int.not_le.2 h]
  · simp [h, Int.not_lt.1 h]
theorem over_count (e : Int) (l : List DR) : ((l.map tv).filter (overD e)).length + (l.filter (keepE e)).length = l.length := by
  have h1 := delT_length (m := l.map tv) (overD e)
  rw [over_keep, List.length_map, List.length_map] at h1
  exact h1
theorem sub_cnt {cn n2 ln : Nat} {tl : List DR} (h : cn + tl.length = ln) (h2 : n2 = tl.length) (hm : ln ≤ 10000) : wrap64 ((ln : Int) - (n2 : Int)) = (cn : Int) ∧ IntKind.i64.wrap ((ln : Int) - (n2 : Int)) = (cn : Int) := by
  have h3 : (ln : Int) - (n2 : Int) = (cn : Int) := by omega
  rw [h3]
  have h4 : wrap64 (cn : Int) = (cn : Int) := by unfold wrap64; omega
  exact ⟨h4, by first | exact h4 | (rw [← wrap64_eq]; exact h4) | (simp [IntKind.wrap, IntKind.bits, IntKind.signed]; omega)⟩
/-- The call is of kind 3. -/
theorem one_exp {W0 w : World} {base rb sb tb mb M : Nat} {kv v : Value} {l : List DR} {me n : Int} {B : BV} (q tol now : Int) (x : PW) (s : Nat) (f : Int) (h : RD W0 w base rb sb tb mb kv M me n B v l) (hm : l.length ≤ 10000)
    (hq0 : q.tmod 5 = 3) :
    Calls Tryd.prog 13 #[.pointer (some ⟨rb, 0, none⟩), rdv me n B v M, .agg (actC q tol now x s f)] w (OneTo W0 w base rb sb tb mb kv M me n B (l.filter (keepE now))) := by
  obtain ⟨ln, eln⟩ : ∃ ln, l.length = ln := ⟨_, rfl⟩
  obtain ⟨a, cap, rfl⟩ := ROwn.len h.own eln
  obtain ⟨b, ep⟩ : ∃ b, w.heap.size = b := ⟨_, rfl⟩
  have hq2 := three_box w (.cells (rdc me n B (.slice a ln cap) M) TRR) (.cells (actC q tol now x s f) TRA) (.cells zrd TRR)
  obtain ⟨W, eW⟩ : ∃ W, ((w.alloc (.cells (rdc me n B (.slice a ln cap) M) TRR)).alloc (.cells (actC q tol now x s f) TRA)).alloc (.cells zrd TRR) = W := ⟨_, rfl⟩
  have hg : Grows w W := by rw [← eW]; exact bl_alloc (bl_alloc (bl_alloc (Below.refl _ _) _) _) _
  rw [eW, ep] at hq2
  have HD := Lib.hid (h.grows hg)
  have HQ := Lib.hid hq2
  have HGW := Lib.hid hg
  have HB0 := Lib.hid (show W0.heap.size ≤ b by rw [← ep]; exact h.gr.size)
  have HM := Lib.hid (show ln ≤ 10000 by rw [← eln]; exact hm)
  have HDE := Lib.hid ((dexpire_any (me := me) (n := n) (B := B) (M := M) now (h.grows hg).own hm (h.grows hg).rel.base_le))
  have A1 := actc_of hq2.2.1
  clear h hm hg hq2
  simp only [rdv, rdc] at eW ⊢
  go_enter Tryd.func13, Tryd.ntmps13
  have A2 := A1
  obtain ⟨k0, k1, k2, k3, k4, k5, k6, k7, k8, k9, k10, k11, k12, k13, k14, k15, k16, kz⟩ := A1
  obtain ⟨tl, etl⟩ : ∃ tl, l.filter (keepE now) = tl := ⟨_, rfl⟩
  obtain ⟨cn, ecn⟩ : ∃ cn, ((l.map tv).filter (overD now)).length = cn := ⟨_, rfl⟩
  have hov := over_keep now l
  have hoc := over_count now l
  have HTK := Lib.hid (fun W' (h : RelayAt W' base rb sb tb kv mb (l.map tv) M me n B) => rexpire_r_any now h (fun p hp => by obtain ⟨z, -, rfl⟩ := List.mem_map.1 hp; exact ⟨_, rfl⟩))
  rw [hov, ecn] at HTK
  rw [etl] at HTK HDE hoc ⊢
  rw [ecn, eln] at hoc
  clear etl ecn hov
  have HOC := Lib.hid hoc
  clear hoc
  go_wp2_with (refine wpList_load_box rfl 41 (.tmp 4) rfl b (rdc me n B (.slice a ln cap) M) rfl (Tryd.isAgg41 _) (Tryd.sizeOf41 _) HQ.out.1 ?_)
  refine HDE.out.mono ?_
  rintro e w2 ⟨a2, n2, c2, rfl, hn2, hg2, ho2⟩
  have Q2 := Lib.hid (And.intro (box_grows HQ.out.1 hg2) (And.intro (box_grows HQ.out.2.1 hg2) (box_grows HQ.out.2.2 hg2)))
  have R2 := Lib.hid (HD.out.rel.grows hg2)
  have O2 := Lib.hid ho2
  have N2 := Lib.hid hn2
  have G2 := Lib.hid (grows_trans _ _ _ HD.out.gr hg2)
  have GX2 := Lib.hid (grows_trans _ _ _ HGW.out hg2)
  obtain ⟨p, epp⟩ : ∃ p, w2.heap.size = p := ⟨_, rfl⟩
  obtain ⟨w3, e3⟩ : ∃ w3, w2.alloc (.cells zrd TRR) = w3 := ⟨_, rfl⟩
  have g3 : Grows w2 w3 := by rw [← e3]; exact bl_alloc (Below.refl _ _) _
  have hp3 : w3.heap[p]? = some (.cells zrd TRR (0, 0)) := by rw [← e3, ← epp]; exact heap_alloc_new w2 _
  have G3 := Lib.hid (And.intro g3 hp3)
  clear hg2 ho2 hn2 g3 hp3 k0 k1 k2 k3 k4 k5 k6 k7 k8 k9 k10 k11 k12 k13 k14 k15 k16 kz A2 eW
  go_wp2_with (first | (refine wpList_store_box rfl 41 (.tmp 10) (.tmp 68) rfl p (rdc me n B (.slice a2 n2 c2) M) rfl rfl (Tryd.sizeOf41 _) G3.out.2 rfl (rdc_one _ _ _ _ _ _ _) ?_; intro w4 h4 c4))
  have R4 := Lib.hid ((R2.out.grows G3.out.1).setBox G3.out.2 c4)
  have O4 := Lib.hid (row_box (own_grows O2.out G3.out.1) G3.out.2 c4)
  have hl2 := box_lt Q2.out.2.2
  have QB4 := Lib.hid (box_chg (box_grows Q2.out.1 G3.out.1) c4 (by omega))
  have Q4 := Lib.hid (And.intro (box_chg (box_grows Q2.out.2.1 G3.out.1) c4 (by omega)) (And.intro (box_chg (box_grows Q2.out.2.2 G3.out.1) c4 (by omega)) h4))
  have GW4 := Lib.hid (grows_chg (grows_trans _ _ _ G2.out G3.out.1) c4 fun j hj => by have := HB0.out; omega)
  have NP := Lib.hid (show p ≠ b + 1 + 1 by omega)
  have GX4 := Lib.hid (grows_chg (grows_trans _ _ _ GX2.out G3.out.1) c4 fun j hj => by omega)
  have HT4 := Lib.hid (fun w' (hE : Chg (SD tb kv mb (b + 1 + 1)) w4 w') => show _ ∧ _ ∧ _ ∧ _ from And.intro (box_chg QB4.out hE (fun hs => hs.elim (R4.out.notS QB4.out) (fun e => by omega))) <| And.intro (box_chg Q4.out.1 hE (fun hs => hs.elim (R4.out.notS Q4.out.1) (fun e => by omega))) (And.intro (box_chg Q4.out.2.2 hE (fun hs => hs.elim (R4.out.notS Q4.out.2.2) NP.out)) (hE.own O4.out (fun j hj hs => hs.elim (ROwn.tab O4.out R4.out.seen.tab (by decide) j hj) (fun e => by
    obtain ⟨cur, hcur⟩ := row_ty O4.out hj
    rw [e, Q4.out.2.1] at hcur
    injection hcur with hcur
    injection hcur with _ hcur
    exact absurd hcur (by decide))))))
  have HSB := Lib.hid (sub_cnt HOC.out N2.out HM.out)
  clear h4 c4 hl2 epp e3
  simp only [Act.put]
  refine WideN.wp_flag (SD tb kv mb (b + 1 + 1)) [.fix _ (.agg (rdc me n B (.slice a2 n2 c2) M)), .fix _ (.pointer (some ⟨rb, 0, none⟩)), .fix _ (.pointer (some ⟨b + 1, 2, none⟩)), .fix _ (.int .i64 now), .fix _ (.int .i64 (cn : Int)), .fix _ (.pointer (some ⟨b, 16, none⟩)), .fix _ (.pointer (some ⟨b, 16, none⟩)), .fix _ (.slice a ln cap), .fix _ (.int .i64 (ln : Int)), .fix _ (.pointer (some ⟨p, 16, none⟩)), .fix _ (.pointer (some ⟨p, 16, none⟩)), .fix _ (.slice a2 n2 c2), .fix _ (.int .i64 (n2 : Int)), .fix _ (.int .i64 (cn : Int)), .fix _ (.bool true), .none _, .fix _ (.bool true)] (OJ base rb sb tb mb kv M me n B (b + 1 + 1) (l.map tv) (tl.map tv) (rdc me n B (.slice a2 n2 c2) M)) 4 15 ?_ (by kernel_rfl) (by kernel_rfl) rfl rfl (fun vals => by simp [Act.over, dstsOf, overL]; rfl) ?_ ?_ ?_
  · exact OJ.grows ⟨Q4.out.2.1, kv, R4.out, fun _ => rfl⟩ (bl_drew (Below.refl _ _))
  · refine ⟨?_, ?_, ?_, ?_, ?_, ?_, ?_, ?_, ?_, ?_, ?_, ?_, ?_, ?_, ?_, ?_, ?_, trivial⟩
    all_goals
      intro vals w' x' y' hE hJ hx hy _ hn R hR
      simp [WideN.needsOf, Region.binds, dstAt, gOf, SG.fix, SG.none] at hn hR hy hx
      have HR0 := Lib.hid hR
      try simp only [hn] at hR
      have HR := Lib.hid hR
      have HJ := Lib.hid hJ
      have Q := Lib.hid (And.intro (HT4.out w' hE).1 (And.intro (HT4.out w' hE).2.1 (HT4.out w' hE).2.2.1))
      clear hR hE hJ
    · go_wp2_with (refine wpList_load_box rfl 41 (.tmp 10) rfl p (rdc me n B (.slice a2 n2 c2) M) rfl (Tryd.isAgg41 _) (Tryd.sizeOf41 _) Q.out.2.2 ?_)
      exact HR.out _ _ rfl (Chg.refl _ _) HJ.out
    · go_wp2_with fail
      exact HR.out _ _ rfl (Chg.refl _ _) HJ.out
    · go_wp2_with fail
      exact HR.out _ _ rfl (Chg.refl _ _) HJ.out
    · obtain ⟨k0, k1, k2, k3, k4, k5, k6, k7, k8, k9, k10, k11, k12, k13, k14, k15, k16, kz⟩ := actc_of Q.out.2.1
      go_wp2_with fail
      exact HR.out _ _ rfl (Chg.refl _ _) HJ.out
    · subst hx
      go_wp2_with fail
      refine (HTK.out w' HJ.out.old).mono ?_
      rintro e w5 ht
      obtain ⟨rfl, j5, c5⟩ := HJ.out.call ht
      have J5 := Lib.hid (And.intro c5 j5)
      clear ht j5 c5
      go_wp2_with fail
      exact HR.out _ _ rfl J5.out.1 J5.out.2
    · go_wp2_with fail
      exact HR.out _ _ rfl (Chg.refl _ _) HJ.out
    · go_wp2_with fail
      exact HR.out _ _ rfl (Chg.refl _ _) HJ.out
    · obtain ⟨k16, -⟩ := cell_in Q.out.1 16 rfl
      have kz := box_lt Q.out.1
      go_wp2_with fail
      exact HR.out _ _ rfl (Chg.refl _ _) HJ.out
    · go_wp2_with fail
      exact HR.out _ _ rfl (Chg.refl _ _) HJ.out
    · go_wp2_with fail
      exact HR.out _ _ rfl (Chg.refl _ _) HJ.out
    · go_wp2_with fail
      exact HR.out _ _ rfl (Chg.refl _ _) HJ.out
    · obtain ⟨k16, -⟩ := cell_in Q.out.2.2 16 rfl
      have kz := box_lt Q.out.2.2
      go_wp2_with fail
      exact HR.out _ _ rfl (Chg.refl _ _) HJ.out
    · go_wp2_with fail
      exact HR.out _ _ rfl (Chg.refl _ _) HJ.out
    · have hs := HSB.out
      go_wp2_with fail
      exact HR.out _ _ rfl (Chg.refl _ _) HJ.out
    · go_wp2_with fail
      exact HR.out _ _ (by simp) (Chg.refl _ _) HJ.out
    · subst hy
      refine wpList_store_box rfl 41 (.tmp 6) (.tmp 69) rfl (b + 1 + 1) (rdc me n B (.slice a2 n2 c2) M) rfl (by first | exact hn | exact hn.1) (Tryd.sizeOf41 _) HJ.out.box rfl (rdc_one _ _ _ _ _ _ _) ?_
      intro w5 h5 c5
      have J5 := Lib.hid (And.intro (c5.mono (T := SD tb kv mb (b + 1 + 1)) fun j _ hj => Or.inr hj) (HJ.out.store c5 h5))
      clear h5 c5
      go_wp2_with fail
      exact HR.out undef _ J5.out.1 J5.out.2
    · go_wp2_with fail
      exact HR.out _ _ rfl (Chg.refl _ _) HJ.out
  · intro vals w' hE hJ hn
    have n7 : vals 7 = .bool true := hn 16 7 rfl
    obtain ⟨kv', hr, -⟩ := hJ.rel
    have O9 := Lib.hid (And.intro (HT4.out w' hE).2.2.2 (And.intro hr (And.intro hJ.box (grows_chg GW4.out hE (sd_low R4.out HD.out.low (by have := HB0.out; omega))))))
    simp only [n7]
    have CH := Lib.hid (chg_tab GX4.out hE (by omega))
    clear hn hE hJ n7 hr
    go_wp2_with fail
    exact bodyPost_ret (results_box2 Tryd.results13 rfl (Tryd.isAgg41 _) (Tryd.sizeOf41 _) O9.out.2.2.1) rfl ⟨kv', a2, n2, c2, rfl, ⟨O9.out.2.1, O9.out.1, HD.out.low, O9.out.2.2.2⟩, CH.out⟩
end Go.Proofs.YtgjieoljfcfacaaDoor
