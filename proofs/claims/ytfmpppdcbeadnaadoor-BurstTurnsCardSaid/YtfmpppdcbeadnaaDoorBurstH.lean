/- The walks of BurstTurns and BurstBack. -/
import Derived.Test.YtfmpppdcbeadnaaDoorBurstG
namespace Go.Proofs.YtfmpppdcbeadnaaDoor
open Go.RowKit Go.Sort

def SG.ba (l : List Nat) : SG Grows := ⟨fun v w => BA w v l, fun _ _ _ h hg => h.stays hg⟩

set_option maxHeartbeats 1000000 in
theorem burstTurns_walk (va : Value) (la : List Nat) (pos x : Nat) (w : World) (ha : BA0 w va la) (hL : Laid w) (hx : x < 4294967296) (hpos : pos < 4294967296) :
    Calls Tryd.prog 3 #[va, .int .u32 (pos : Int), .int .u32 (x : Int)] w (RetV w (.bool true)) := by
  have HA := Lib.hid ha
  have HL := Lib.hid hL
  clear ha hL
  go_enter Tryd.func3, Tryd.ntmps3
  go_wp2_with fail
  refine (cut_came va la w HA.out).mono ?_
  rintro e w1 ⟨v1, rfl, hg1, hba1⟩
  obtain ⟨xa, ea⟩ : ∃ x, la.take 200 = x := ⟨_, rfl⟩
  have hn1 : xa.length ≤ 200 := by rw [← ea]; exact List.length_take_le _ _
  rw [ea] at hba1
  clear ea
  have HG1 := Lib.hid hg1
  have HBA1 := Lib.hid hba1
  clear hg1 hba1
  go_wp2_with fail
  refine (cut_any v1 xa w1 HBA1.out).mono ?_
  rintro e w2 ⟨v2, rfl, hg2, hba2⟩
  rw [List.take_of_length_le hn1] at hba2
  have ha2 := HBA1.out.stays hg2
  have HG := Lib.hid (grows_trans _ _ _ HG1.out hg2)
  clear hg2 HG1 HBA1 HA
  have c1 := fun W (hg : Grows w2 W) => turn_any v1 xa pos x W (ha2.stays hg) (by omega) hx hpos
  have c2 := fun W (hg : Grows w2 W) => rturn_any v2 xa pos x W (hba2.stays hg) (by omega) hx hpos
  have c3 := fun W (hg : Grows w2 W) => works_any W (HL.out.later (grows_trans _ _ _ HG.out hg)).1 (HL.out.later (grows_trans _ _ _ HG.out hg)).2
  have k1 := fun W (hg : Grows w2 W) => ba_string (ha2.stays hg)
  have k2 := fun W (hg : Grows w2 W) => ba_string (hba2.stays hg)
  obtain ⟨T, eT⟩ : ∃ T, turnN xa (pos % (8 * xa.length)) x = T := ⟨_, rfl⟩
  rw [eT] at c1 c2
  have k3 := fun v W (h : BA W v T) => ba_string h
  obtain ⟨s1, es1⟩ : ∃ s, strB T = s := ⟨_, rfl⟩
  obtain ⟨s0, es0⟩ : ∃ s, strB xa = s := ⟨_, rfl⟩
  rw [es0] at k1 k2
  rw [es1] at k3
  have C1 := Lib.hid c1
  have C2 := Lib.hid c2
  have C3 := Lib.hid c3
  have K1 := Lib.hid k1
  have K2 := Lib.hid k2
  have K3 := Lib.hid k3
  clear c1 c2 c3 k1 k2 k3 eT es0 es1 hn1 ha2 hba2
  go_wp2_with fail
  refine wp_wide2 [.fix _ v1, .fix _ (.int .u32 (pos : Int)), .fix _ (.int .u32 (x : Int)), .ba T, .fix _ (.string s1), .fix _ v2, .fix _ (.int .u32 (pos : Int)), .fix _ (.int .u32 (x : Int)), .ba T, .fix _ (.string s1), .fix _ (.bool true), .fix _ (.bool true), .fix _ v1, .fix _ (.string s0), .fix _ v2, .fix _ (.string s0), .fix _ (.bool true), .fix _ (.bool true), .fix _ (.bool true), .fix _ (.bool true), .fix _ (.bool true), .fix _ (.bool true)] ?f (by kernel_rfl) (by kernel_rfl) rfl (fun vals => by simp [Act.over, dstsOf, overL]; rfl) ?_ ?_
  · refine ⟨?_, ?_, ?_, ?_, ?_, ?_, ?_, ?_, ?_, ?_, ?_, ?_, ?_, ?_, ?_, ?_, ?_, ?_, ?_, ?_, ?_, ?_, trivial⟩
    all_goals
      intro vals w' hE hn R hR
      simp [needsOf, dstAt, gOf, SG.fix, SG.ba] at hn hR
      try simp only [hn] at hR
      have HR := Lib.hid hR
      have HE := Lib.hid hE
      clear hR hE
    case refine_4 =>
      go_wp2_with (go_at_call 8; refine (C1.out _ HE.out).mono ?_; rintro e w3 ⟨v, rfl, hg, hb⟩)
      exact HR.out _ _ hb hg
    case refine_5 =>
      have k := K3.out _ _ hn
      clear hn
      go_wp2_with fail
      exact HR.out _ _ rfl (grows_refl _)
    case refine_9 =>
      go_wp2_with (go_at_call 9; refine (C2.out _ HE.out).mono ?_; rintro e w3 ⟨v, rfl, hg, hb⟩)
      exact HR.out _ _ hb hg
    case refine_10 =>
      have k := K3.out _ _ hn
      clear hn
      go_wp2_with fail
      exact HR.out _ _ rfl (grows_refl _)
    case refine_14 =>
      have k := K1.out _ HE.out
      go_wp2_with fail
      exact HR.out _ _ rfl (grows_refl _)
    case refine_16 =>
      have k := K2.out _ HE.out
      go_wp2_with fail
      exact HR.out _ _ rfl (grows_refl _)
    case refine_20 =>
      go_wp2_with (go_at_call 10; refine (C3.out _ HE.out).mono ?_; rintro e w3 ⟨rfl, hg⟩)
      exact HR.out _ _ rfl hg
    all_goals
      go_wp2_with fail
      exact HR.out _ _ rfl (grows_refl _)
  · intro vals w' hE hn
    have h6 := hn 21 6 rfl
    simp [gOf, SG.fix] at h6
    clear hn
    have HE := Lib.hid hE
    clear hE
    go_wp2_with fail
    go_ret
    exact ⟨congrArg Ending.returned h6, grows_trans _ _ _ HG.out HE.out⟩

theorem turn_twice (l : List Nat) (p x : Nat) : turnN (turnN l p x) p x = l := by
  apply List.ext_getElem (by simp [turnN_length])
  intro i h1 h2
  rw [turnN_get _ _ _ _ (by rw [turnN_length]; exact h2), turnN_get _ _ _ _ h2, Nat.xor_assoc, Nat.xor_self, Nat.xor_zero]
theorem same_of_none {la lb : List Nat} (ha : okB la) (hb : okB lb) (hlen : la.length = lb.length) (h : SpanRel (DiffAt la lb) (8 * la.length) none) : la = lb := by
  apply List.ext_getElem hlen
  intro i h1 h2
  apply Nat.eq_of_testBit_eq
  intro j
  by_cases hj : j < 8
  · have := h (8 * i + j) (by omega)
    rw [diff_at _ _ _ _ hj] at this
    simp only [List.getD_eq_getElem?_getD, List.getElem?_eq_getElem h1, List.getElem?_eq_getElem h2, Option.getD_some, Nat.testBit_xor] at this
    revert this
    cases la[i].testBit j <;> cases lb[i].testBit j <;> simp
  · have e : ∀ y, y < 256 → y.testBit j = false := fun y hy => Nat.testBit_lt_two_pow (by have h9 : 2 ^ 8 ≤ 2 ^ j := Nat.pow_le_pow_right (by omega) (by omega); omega)
    rw [e _ (ha _ (List.getElem_mem h1)), e _ (hb _ (List.getElem_mem h2))]
theorem diff_turn {l : List Nat} {p x k : Nat} (h : DiffAt l (turnN l p x) k) (hk : k < 8 * l.length) : p ≤ k ∧ bitAt x (k - p) := by
  have h1 : k / 8 < l.length := by omega
  unfold DiffAt at h
  rw [List.getD_eq_getElem?_getD, List.getD_eq_getElem?_getD, List.getElem?_eq_getElem h1, List.getElem?_eq_getElem (by rw [turnN_length]; exact h1), Option.getD_some, Option.getD_some, turnN_get _ _ _ _ h1, ← Nat.xor_assoc, Nat.xor_self, Nat.zero_xor, byteAt_bit,
    show 8 * (k / 8) + k % 8 = k by omega, Nat.testBit_mul_two_pow] at h
  simp only [Bool.and_eq_true, decide_eq_true_eq] at h
  refine ⟨h.2.1, ?_⟩
  have := h.2.2
  rw [Nat.testBit_eq_decide_div_mod_eq] at this
  simpa [bitAt] using this
theorem turn_span {l : List Nat} {p x f g : Nat} (hx : x < 4294967296) (h : SpanRel (DiffAt l (turnN l p x)) (8 * l.length) (some (f, g))) : (g : Int) - (f : Int) + 1 ≤ widthN x := by
  obtain ⟨h1, h2, h3, h4, -⟩ := h
  obtain ⟨f1, f2⟩ := diff_turn h3 (by omega)
  obtain ⟨g1, g2⟩ := diff_turn h4 h2
  have h0 : x ≠ 0 := by
    rintro rfl
    simp [bitAt] at f2
  obtain ⟨a1, a2, a3, a4⟩ := len_spec x h0 hx
  obtain ⟨b1, b2, b3⟩ := ctz32_spec x h0 hx
  have c3 : ¬ f - p < Lib.ctz 32 x := fun hc => b2 _ hc f2
  have c4 : ¬ Lib.bitLen x ≤ g - p := fun hc => a3 _ hc g2
  unfold widthN
  rw [if_neg h0]
  omega

set_option maxHeartbeats 2000000 in
theorem burstBack_walk (va : Value) (la : List Nat) (pos x : Nat) (w : World) (ha : BA0 w va la) (hL : Laid w) (hx : x < 4294967296) (hpos : pos < 4294967296) :
    Calls Tryd.prog 6 #[va, .int .u32 (pos : Int), .int .u32 (x : Int)] w (RetV w (.bool true)) := by
  have HA := Lib.hid ha
  have HL := Lib.hid hL
  clear ha hL
  go_enter Tryd.func6, Tryd.ntmps6
  go_wp2_with fail
  refine (cut_came va la w HA.out).mono ?_
  rintro e w1 ⟨v1, rfl, hg1, hba1⟩
  obtain ⟨xa, ea⟩ : ∃ x, la.take 200 = x := ⟨_, rfl⟩
  have hn1 : xa.length ≤ 200 := by rw [← ea]; exact List.length_take_le _ _
  rw [ea] at hba1
  clear ea
  have HG1 := Lib.hid hg1
  have HBA1 := Lib.hid hba1
  clear hg1 hba1
  go_wp2_with fail
  refine (turn_any v1 xa pos x w1 HBA1.out (by omega) hx hpos).mono ?_
  rintro e w2 ⟨v2, rfl, hg2, hba2⟩
  have ha2 := HBA1.out.stays hg2
  have HG := Lib.hid (grows_trans _ _ _ HG1.out hg2)
  clear hg2 HG1 HBA1 HA
  obtain ⟨o, ho⟩ := span_exists (DiffAt xa (turnN xa (pos % (8 * xa.length)) x)) (8 * xa.length)
  have hwr := width_range x hx
  have c1 := fun W (hg : Grows w2 W) => turn_any v2 _ pos x W (hba2.stays hg) (by rw [turnN_length]; omega) hx hpos
  rw [turnN_length, turn_twice] at c1
  have c2 := fun W (hg : Grows w2 W) => differ_any v1 v2 _ _ o W (ha2.stays hg) (hba2.stays hg) (by omega) ho
  have c3 := fun W (hg : Grows w2 W) => works_any W (HL.out.later (grows_trans _ _ _ HG.out hg)).1 (HL.out.later (grows_trans _ _ _ HG.out hg)).2
  have c4 := fun W (hg : Grows w2 W) => is_any v1 v2 _ _ o W (ha2.stays hg) (hba2.stays hg) (by omega) ho
  have c5 := fun W (hg : Grows w2 W) => width_any x hx W (HL.out.later (grows_trans _ _ _ HG.out hg)).1
  have k1 := fun W (hg : Grows w2 W) => ba_string (ha2.stays hg)
  have k2 := fun W (hg : Grows w2 W) => ba_string (hba2.stays hg)
  have k3 := fun v W (h : BA W v xa) => ba_string h
  have hlt : xa.length = (turnN xa (pos % (8 * xa.length)) x).length := (turnN_length _ _ _).symm
  have hsame := fun h => same_of_none ha2.1 hba2.1 hlt h
  have hspan := fun f g h => turn_span (l := xa) (p := pos % (8 * xa.length)) (f := f) (g := g) hx h
  obtain ⟨T, eT⟩ : ∃ T, turnN xa (pos % (8 * xa.length)) x = T := ⟨_, rfl⟩
  rw [eT] at c2 c4 k2 hlt hsame ho
  simp only [eT] at hspan
  obtain ⟨s0, es0⟩ : ∃ s, strB xa = s := ⟨_, rfl⟩
  obtain ⟨s1, es1⟩ : ∃ s, strB T = s := ⟨_, rfl⟩
  rw [es0] at k1 k3
  rw [es1] at k2
  obtain ⟨u, eu⟩ : ∃ u, widthN x = u := ⟨_, rfl⟩
  rw [eu] at c5 hwr
  simp only [eu] at hspan
  obtain ⟨hu0, hu1⟩ := hwr
  have C1 := Lib.hid c1
  have C3 := Lib.hid c3
  have C5 := Lib.hid c5
  have K1 := Lib.hid k1
  have K2 := Lib.hid k2
  have K3 := Lib.hid k3
  clear c1 c3 c5 k1 k2 k3 eT eu hn1 ha2 hba2
  cases o with
  | none =>
    have hv : diffV xa T none = .tuple #[.int .i64 0, .int .i64 0, .bool true] := by unfold diffV; rw [if_pos hlt]; rfl
    have hi : isB xa T none = false := by simp [isB]
    have hst : s1 = s0 := by rw [← es1, ← es0, hsame ho]
    subst hst
    rw [hv] at c2
    rw [hi] at c4
    have C2 := Lib.hid c2
    have C4 := Lib.hid c4
    clear c2 c4 hv hi hspan hsame ho hlt es0 es1
    go_wp2_with (first | (go_at_call 13; refine (C2.out _ (Below.refl _ _)).mono ?_; rintro e w' ⟨rfl, m, rfl⟩) | (go_at_call 11; refine (C5.out _ (bl_drewN (Below.refl _ _) _)).mono ?_; rintro e w' ⟨rfl, rfl⟩))
    refine wp_wide2 [.fix _ v2, .fix _ (.int .u32 (pos : Int)), .fix _ (.int .u32 (x : Int)), .ba xa, .fix _ (.string s1), .fix _ v1, .fix _ (.string s1), .fix _ (.bool true), .fix _ (.bool true), .fix _ v1, .fix _ v2, .fix _ (.bool false), .fix _ (.bool false), .fix _ v1, .fix _ (.string s1), .fix _ v2, .fix _ (.string s1), .fix _ (.bool true), .fix _ (.bool true), .fix _ (.bool true), .fix _ (.bool true), .fix _ (.bool true), .fix _ (.bool true), .fix _ (.bool true)] ?f1 (by kernel_rfl) (by kernel_rfl) rfl (fun vals => by simp [Act.over, dstsOf, overL]; rfl) ?_ ?_
    · refine ⟨?_, ?_, ?_, ?_, ?_, ?_, ?_, ?_, ?_, ?_, ?_, ?_, ?_, ?_, ?_, ?_, ?_, ?_, ?_, ?_, ?_, ?_, ?_, ?_, trivial⟩
      all_goals
        intro vals w' hE hn R hR
        simp [needsOf, dstAt, gOf, SG.fix, SG.ba] at hn hR
        try simp only [hn] at hR
        have HR := Lib.hid hR
        have HE := Lib.hid (grows_trans _ _ _ (bl_drewN (Below.refl _ _) m) hE)
        clear hR hE
      case refine_4 =>
        go_wp2_with (go_at_call 8; refine (C1.out _ HE.out).mono ?_; rintro e w3 ⟨v, rfl, hg, hb⟩)
        exact HR.out _ _ hb hg
      case refine_5 =>
        have k := K3.out _ _ hn
        clear hn
        go_wp2_with fail
        exact HR.out _ _ rfl (grows_refl _)
      case refine_7 =>
        have k := K1.out _ HE.out
        go_wp2_with fail
        exact HR.out _ _ rfl (grows_refl _)
      case refine_12 =>
        go_wp2_with (go_at_call 14; refine (C4.out _ HE.out).mono ?_; rintro e w3 ⟨rfl, m2, rfl⟩)
        exact HR.out _ _ rfl (bl_drewN (Below.refl _ _) _)
      case refine_15 =>
        have k := K1.out _ HE.out
        go_wp2_with fail
        exact HR.out _ _ rfl (grows_refl _)
      case refine_17 =>
        have k := K2.out _ HE.out
        go_wp2_with fail
        exact HR.out _ _ rfl (grows_refl _)
      case refine_22 =>
        go_wp2_with (go_at_call 10; refine (C3.out _ HE.out).mono ?_; rintro e w3 ⟨rfl, hg⟩)
        exact HR.out _ _ rfl hg
      all_goals
        go_wp2_with fail
        exact HR.out _ _ rfl (grows_refl _)
    · intro vals w' hE hn
      have h6 := hn 23 6 rfl
      simp [gOf, SG.fix] at h6
      clear hn
      have HE := Lib.hid hE
      clear hE
      go_wp2_with fail
      go_ret
      exact ⟨congrArg Ending.returned h6, grows_trans _ _ _ HG.out (grows_trans _ _ _ (bl_drewN (Below.refl _ _) m) HE.out)⟩
  | some fg =>
    obtain ⟨f, g⟩ := fg
    have hv : diffV xa T (some (f, g)) = .tuple #[.int .i64 (f : Int), .int .i64 ((g : Int) - (f : Int) + 1), .bool true] := by unfold diffV; rw [if_pos hlt]; rfl
    have hs := hspan _ _ ho
    have hi : isB xa T (some (f, g)) = true := by simp [isB, hlt]; omega
    have hfg : f ≤ g := ho.1
    rw [hv] at c2
    rw [hi] at c4
    obtain ⟨wd, hwd⟩ : ∃ u : Int, (g : Int) - (f : Int) + 1 = u := ⟨_, rfl⟩
    rw [hwd] at c2 hs
    have C2 := Lib.hid c2
    have C4 := Lib.hid c4
    clear c2 c4 hv hi hwd hfg hspan hsame ho hlt es0 es1
    go_wp2_with (first | (go_at_call 13; refine (C2.out _ (Below.refl _ _)).mono ?_; rintro e w' ⟨rfl, m, rfl⟩) | (go_at_call 11; refine (C5.out _ (bl_drewN (Below.refl _ _) _)).mono ?_; rintro e w' ⟨rfl, rfl⟩))
    refine wp_wide2 [.fix _ v2, .fix _ (.int .u32 (pos : Int)), .fix _ (.int .u32 (x : Int)), .ba xa, .fix _ (.string s0), .fix _ v1, .fix _ (.string s0), .fix _ (.bool true), .fix _ (.bool true), .fix _ v1, .fix _ v2, .fix _ (.bool true), .fix _ (.bool true), .fix _ undef, .fix _ undef, .fix _ undef, .fix _ undef, .fix _ undef, .fix _ (.bool true), .fix _ (.bool true), .fix _ (.bool true), .fix _ (.bool true), .fix _ (.bool true), .fix _ (.bool true)] ?f2 (by kernel_rfl) (by kernel_rfl) rfl (fun vals => by simp [Act.over, dstsOf, overL]; rfl) ?_ ?_
    · refine ⟨?_, ?_, ?_, ?_, ?_, ?_, ?_, ?_, ?_, ?_, ?_, ?_, ?_, ?_, ?_, ?_, ?_, ?_, ?_, ?_, ?_, ?_, ?_, ?_, trivial⟩
      all_goals
        intro vals w' hE hn R hR
        simp [needsOf, dstAt, gOf, SG.fix, SG.ba] at hn hR
        try simp only [hn] at hR
        have HR := Lib.hid hR
        have HE := Lib.hid (grows_trans _ _ _ (bl_drewN (Below.refl _ _) m) hE)
        clear hR hE
      case refine_4 =>
        go_wp2_with (go_at_call 8; refine (C1.out _ HE.out).mono ?_; rintro e w3 ⟨v, rfl, hg, hb⟩)
        exact HR.out _ _ hb hg
      case refine_5 =>
        have k := K3.out _ _ hn
        clear hn
        go_wp2_with fail
        exact HR.out _ _ rfl (grows_refl _)
      case refine_7 =>
        have k := K1.out _ HE.out
        go_wp2_with fail
        exact HR.out _ _ rfl (grows_refl _)
      case refine_12 =>
        go_wp2_with (go_at_call 14; refine (C4.out _ HE.out).mono ?_; rintro e w3 ⟨rfl, m2, rfl⟩)
        exact HR.out _ _ rfl (bl_drewN (Below.refl _ _) _)
      case refine_22 =>
        go_wp2_with (go_at_call 10; refine (C3.out _ HE.out).mono ?_; rintro e w3 ⟨rfl, hg⟩)
        exact HR.out _ _ rfl hg
      all_goals
        go_wp2_with fail
        exact HR.out _ _ rfl (grows_refl _)
    · intro vals w' hE hn
      have h6 := hn 23 6 rfl
      simp [gOf, SG.fix] at h6
      clear hn
      have HE := Lib.hid hE
      clear hE
      go_wp2_with fail
      go_ret
      exact ⟨congrArg Ending.returned h6, grows_trans _ _ _ HG.out (grows_trans _ _ _ (bl_drewN (Below.refl _ _) m) HE.out)⟩
end Go.Proofs.YtfmpppdcbeadnaaDoor
