/- A call, of both: Check. -/
import Derived.Test.YtgjieoljfcfacaaDoorRelJ
namespace Go.Proofs.YtgjieoljfcfacaaDoor
open Go.RowKit Go.Sort
set_option maxHeartbeats 4000000
set_option maxRecDepth 100000
/-- The call is of kind 2. -/
theorem one_check {W0 w : World} {base rb sb tb mb M : Nat} {kv v : Value} {l : List DR} {me n : Int} {B : BV} (q tol now : Int) (x : PW) (s : Nat) (f : Int) (h : RD W0 w base rb sb tb mb kv M me n B v l) (hm : l.length ≤ 10000)
    (hq0 : q.tmod 5 = 2) :
    Calls Tryd.prog 13 #[.pointer (some ⟨rb, 0, none⟩), rdv me n B v M, .agg (actC q tol now x s f)] w (OneTo W0 w base rb sb tb mb kv M me n B l) := by
  obtain ⟨ln, eln⟩ : ∃ ln, l.length = ln := ⟨_, rfl⟩
  obtain ⟨a, cap, rfl⟩ := ROwn.len h.own eln
  obtain ⟨b, ep⟩ : ∃ b, w.heap.size = b := ⟨_, rfl⟩
  have hq2 := three_box w (.cells (rdc me n B (.slice a ln cap) M) TRR) (.cells (actC q tol now x s f) TRA) (.cells zrd TRR)
  obtain ⟨W, eW⟩ : ∃ W, ((w.alloc (.cells (rdc me n B (.slice a ln cap) M) TRR)).alloc (.cells (actC q tol now x s f) TRA)).alloc (.cells zrd TRR) = W := ⟨_, rfl⟩
  have hg : Grows w W := by rw [← eW]; exact bl_alloc (bl_alloc (bl_alloc (Below.refl _ _) _) _) _
  rw [eW, ep] at hq2
  have HD := Lib.hid (h.grows hg)
  have HQ := Lib.hid hq2
  have HGW := Lib.hid hg
  have HB0 := Lib.hid (show W0.heap.size ≤ b by rw [← ep]; exact h.gr.size)
  have HM := Lib.hid hm
  have A1 := actc_of hq2.2.1
  clear h hm hg hq2
  simp only [rdv, rdc] at eW ⊢
  go_enter Tryd.func13, Tryd.ntmps13
  have A2 := A1
  obtain ⟨k0, k1, k2, k3, k4, k5, k6, k7, k8, k9, k10, k11, k12, k13, k14, k15, k16, kz⟩ := A1
  obtain ⟨er, eer⟩ : ∃ er, rchk (l.map tv) M me n B tol now x = er := ⟨_, rfl⟩
  have EER := Lib.hid eer
  go_wp2_with fail
  have HT4 := Lib.hid (fun w' (hE : Chg (fun j => j = b + 1 + 1) W w') => show _ ∧ _ ∧ _ from And.intro (box_chg HQ.out.1 hE (by omega)) (And.intro (box_chg HQ.out.2.1 hE (by omega)) (HD.out.set HQ.out.2.2 hE (by have := HB0.out; omega))))
  clear eer eW A2 k0 k1 k2 k3 k4 k5 k6 k7 k8 k9 k10 k11 k12 k13 k14 k15 k16 kz
  refine WideN.wp_flag (fun j => j = b + 1 + 1) [.fix _ (.agg (rdc me n B (.slice a ln cap) M)), .fix _ (.pointer (some ⟨rb, 0, none⟩)), .fix _ (.pointer (some ⟨b + 1, 1, none⟩)), .fix _ (.int .i64 tol), .fix _ (.pointer (some ⟨b + 1, 2, none⟩)), .fix _ (.int .i64 now), .fix _ (.pointer (some ⟨b + 1, 3, none⟩)), .fix _ x.val, .fix _ (.int .i64 er), .fix _ (.agg (rdc me n B (.slice a ln cap) M)), .fix _ (.pointer (some ⟨b + 1, 1, none⟩)), .fix _ (.int .i64 tol), .fix _ (.pointer (some ⟨b + 1, 2, none⟩)), .fix _ (.int .i64 now), .fix _ (.pointer (some ⟨b + 1, 3, none⟩)), .fix _ x.val, .fix _ (.int .i64 er), .fix _ (.bool true), .none _, .fix _ (.bool true)] (BoxJ (b + 1 + 1) zrd (rdc me n B (.slice a ln cap) M) TRR) 18 18 ?_ (by kernel_rfl) (by kernel_rfl) rfl rfl (fun vals => by simp [Act.over, dstsOf, overL]; rfl) ?_ ?_ ?_
  · exact box_grows HQ.out.2.2 (bl_drew (Below.refl _ _))
  · refine ⟨?_, ?_, ?_, ?_, ?_, ?_, ?_, ?_, ?_, ?_, ?_, ?_, ?_, ?_, ?_, ?_, ?_, ?_, ?_, ?_, trivial⟩
    all_goals
      intro vals w' x' y' hE hJ hx hy _ hn R hR
      simp [WideN.needsOf, Region.binds, dstAt, gOf, SG.fix, SG.none] at hn hR hy
      have HR0 := Lib.hid hR
      try simp only [hn] at hR
      have HR := Lib.hid hR
      have HJ := Lib.hid hJ
      have Q := Lib.hid (HT4.out w' hE)
      clear hR hE hJ hx
    · go_wp2_with (refine wpList_load_box rfl 41 (.tmp 4) rfl b (rdc me n B (.slice a ln cap) M) rfl (Tryd.isAgg41 _) (Tryd.sizeOf41 _) Q.out.1 ?_)
      exact HR.out _ _ rfl (Chg.refl _ _) HJ.out
    · go_wp2_with fail
      exact HR.out _ _ rfl (Chg.refl _ _) HJ.out
    · go_wp2_with fail
      exact HR.out _ _ rfl (Chg.refl _ _) HJ.out
    · obtain ⟨k0, k1, k2, k3, k4, k5, k6, k7, k8, k9, k10, k11, k12, k13, k14, k15, k16, kz⟩ := actc_of Q.out.2.1
      go_wp2_with fail
      exact HR.out _ _ rfl (Chg.refl _ _) HJ.out
    · go_wp2_with fail
      exact HR.out _ _ rfl (Chg.refl _ _) HJ.out
    · obtain ⟨k0, k1, k2, k3, k4, k5, k6, k7, k8, k9, k10, k11, k12, k13, k14, k15, k16, kz⟩ := actc_of Q.out.2.1
      go_wp2_with fail
      exact HR.out _ _ rfl (Chg.refl _ _) HJ.out
    · go_wp2_with fail
      exact HR.out _ _ rfl (Chg.refl _ _) HJ.out
    · obtain ⟨k0, k1, k2, k3, k4, k5, k6, k7, k8, k9, k10, k11, k12, k13, k14, k15, k16, kz⟩ := actc_of Q.out.2.1
      go_wp2_with fail
      exact HR.out _ _ rfl (Chg.refl _ _) HJ.out
    · go_wp2_with fail
      refine (rcheck_r_any tol now x Q.out.2.2.rel).mono ?_
      rintro e w5 ⟨rfl, hg5⟩
      have g5 : Grows w' w5 := hg5
      rw [EER.out]
      go_wp2_with fail
      exact HR.out _ _ rfl (Chg.ofGrows g5) (HJ.out.grows g5)
    · go_wp2_with (refine wpList_load_box rfl 41 (.tmp 4) rfl b (rdc me n B (.slice a ln cap) M) rfl (Tryd.isAgg41 _) (Tryd.sizeOf41 _) Q.out.1 ?_)
      exact HR.out _ _ rfl (Chg.refl _ _) HJ.out
    · go_wp2_with fail
      exact HR.out _ _ rfl (Chg.refl _ _) HJ.out
    · obtain ⟨k0, k1, k2, k3, k4, k5, k6, k7, k8, k9, k10, k11, k12, k13, k14, k15, k16, kz⟩ := actc_of Q.out.2.1
      go_wp2_with fail
      exact HR.out _ _ rfl (Chg.refl _ _) HJ.out
    · go_wp2_with fail
      exact HR.out _ _ rfl (Chg.refl _ _) HJ.out
    · obtain ⟨k0, k1, k2, k3, k4, k5, k6, k7, k8, k9, k10, k11, k12, k13, k14, k15, k16, kz⟩ := actc_of Q.out.2.1
      go_wp2_with fail
      exact HR.out _ _ rfl (Chg.refl _ _) HJ.out
    · go_wp2_with fail
      exact HR.out _ _ rfl (Chg.refl _ _) HJ.out
    · obtain ⟨k0, k1, k2, k3, k4, k5, k6, k7, k8, k9, k10, k11, k12, k13, k14, k15, k16, kz⟩ := actc_of Q.out.2.1
      go_wp2_with fail
      exact HR.out _ _ rfl (Chg.refl _ _) HJ.out
    · go_wp2_with fail
      refine (dcheck_any tol now x Q.out.2.2.own HM.out Q.out.2.2.rel.base_le).mono ?_
      rintro e w5 ⟨rfl, hg5⟩
      have g5 : Grows w' w5 := hg5
      rw [EER.out]
      go_wp2_with fail
      exact HR.out _ _ rfl (Chg.ofGrows g5) (HJ.out.grows g5)
    · go_wp2_with fail
      exact HR.out _ _ (by simp) (Chg.refl _ _) HJ.out
    · subst hy
      refine wpList_store_box rfl 41 (.tmp 6) (.tmp 45) rfl (b + 1 + 1) (rdc me n B (.slice a ln cap) M) rfl (by first | exact hn | exact hn.1) (Tryd.sizeOf41 _) (show w'.heap[b + 1 + 1]? = some (.cells zrd TRR (0, 0)) from HJ.out) rfl (rdc_one _ _ _ _ _ _ _) ?_
      intro w5 h5 c5
      have j5 : BoxJ (b + 1 + 1) zrd (rdc me n B (.slice a ln cap) M) TRR true true w5 := h5
      have J5 := Lib.hid (And.intro c5 j5)
      clear h5 c5 j5
      go_wp2_with fail
      exact HR.out undef _ J5.out.1 J5.out.2
    · go_wp2_with fail
      exact HR.out _ _ rfl (Chg.refl _ _) HJ.out
  · intro vals w' hE hJ hn
    have n7 : vals 7 = .bool true := hn 19 7 rfl
    have h9 : w'.heap[b + 1 + 1]? = some (.cells (rdc me n B (.slice a ln cap) M) TRR (0, 0)) := hJ
    have O9 := Lib.hid (And.intro h9 (HT4.out w' hE).2.2)
    simp only [n7]
    have CH := Lib.hid (chg_box (tb := tb) (mb := mb) (kv := kv) HGW.out hE (by omega))
    clear hn hE hJ n7 h9
    go_wp2_with fail
    exact bodyPost_ret (results_box2 Tryd.results13 rfl (Tryd.isAgg41 _) (Tryd.sizeOf41 _) O9.out.1) rfl ⟨kv, a, ln, cap, rfl, O9.out.2, CH.out⟩
end Go.Proofs.YtgjieoljfcfacaaDoor
