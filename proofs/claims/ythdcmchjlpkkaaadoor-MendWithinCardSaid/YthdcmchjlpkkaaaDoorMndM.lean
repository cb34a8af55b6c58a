/- The walk of MendNear. -/
import Derived.Test.YthdcmchjlpkkaaaDoorMndL
import Derived.Test.YthdcmchjlpkkaaaDoorMndI
namespace Go.Proofs.YthdcmchjlpkkaaaDoor.Tr
open Go.RowKit Go.Sort
set_option maxHeartbeats 4000000
set_option maxRecDepth 100000
theorem cl_diff {a b d : Int} (hd : 0 ≤ d) (h : a ≤ b + d) : clL a - clL b ≤ d := by
  unfold clL
  repeat' split
  all_goals omega
/-- Sets that hold node 0. -/
theorem listN_zero_mem {s n : Nat} (hs : s.testBit 0 = true) (hn : 0 < n) : (0 : Int) ∈ listN (s &&& allN n) := by
  rw [mem_listN]
  have := hasN_nat (s &&& allN n) 0
  rw [show ((0 : Nat) : Int) = 0 from rfl] at this
  rw [this, Nat.testBit_and, hs, allN_bit n 0 (by decide)]
  simp
  exact hn
theorem listN_lt {s n : Nat} {q : Int} (h : q ∈ listN (s &&& allN n)) : 0 ≤ q ∧ q.toNat < n := by
  rw [mem_listN] at h
  unfold hasN at h
  simp only [Bool.and_eq_true, decide_eq_true_eq] at h
  obtain ⟨⟨h1, h2⟩, h3⟩ := h
  rw [Nat.testBit_and, allN_bit n _ (by omega)] at h3
  simp only [Bool.and_eq_true, decide_eq_true_eq] at h3
  exact ⟨h1, h3.2⟩
theorem listN_none (s : Nat) : listN (s &&& allN 0) = [] := by
  rw [List.eq_nil_iff_forall_not_mem]
  intro q hq
  have := (listN_lt hq).2
  omega
theorem atI_one {c : List Int} {E : List (List Int)} {D ss : List Int} {f : Int} {p : Nat} (hp : p < c.length) : atI (oneI c E D ss f) p = clL (outI c E D ss f p) := by
  unfold atI
  rw [if_pos (by rw [oneI_length]; exact hp)]
  unfold oneI
  rw [List.getD_eq_getElem?_getD, List.getElem?_map, List.getElem?_range hp]
  rfl
theorem near_end {c : List Int} {E : List (List Int)} {D ss : List Int} {f e d lo hi : Int} {s : Nat} (h0 : 0 < ss.length) (he0 : 0 ≤ e) (hd0 : 0 ≤ d) (he : ∀ l ∈ E, Wi e l) (hd : Wi d D) (h : LoHi (oneI c E D ss f) (s &&& allN c.length) (listN (s &&& allN c.length)) lo hi) : hi - lo ≤ 2 * e + 2 * d := by
  obtain ⟨⟨p, hp, e1⟩, ⟨q, hq, e2⟩, -⟩ := h
  have h1 := listN_lt hp
  have h2 := listN_lt hq
  rw [atI_one h1.2] at e1
  rw [atI_one h2.2] at e2
  rw [e1, e2]
  refine cl_diff (by omega) ?_
  have := out_near (c := c) (f := f) h0 (errI_within he0 he) (atI_within hd0 hd) q.toNat p.toNat
  omega
theorem conv32 {y : Int} (h : R32 y) : IntKind.i64.wrap y = y ∧ wrap64 y = y := by
  unfold R32 at h
  exact ⟨IntWalk.i64_in _ (by omega), IntWalk.wrap64_in _ (by omega)⟩
theorem mul_wr {e d : Int} (he : 0 ≤ e ∧ e ≤ 65535) (hd : 0 ≤ d ∧ d ≤ 65535) : IntKind.i64.wrap e = e ∧ wrap64 e = e ∧ IntKind.i64.wrap d = d ∧ wrap64 d = d ∧ IntKind.i64.wrap (2 * e) = 2 * e ∧ wrap64 (2 * e) = 2 * e ∧ IntKind.i64.wrap (2 * d) = 2 * d ∧ wrap64 (2 * d) = 2 * d ∧ IntKind.i64.wrap (2 * e + 2 * d) = 2 * e + 2 * d ∧ wrap64 (2 * e + 2 * d) = 2 * e + 2 * d :=
  ⟨IntWalk.i64_in _ (by omega), IntWalk.wrap64_in _ (by omega), IntWalk.i64_in _ (by omega), IntWalk.wrap64_in _ (by omega), IntWalk.i64_in _ (by omega), IntWalk.wrap64_in _ (by omega), IntWalk.i64_in _ (by omega), IntWalk.wrap64_in _ (by omega), IntWalk.i64_in _ (by omega), IntWalk.wrap64_in _ (by omega)⟩
theorem mendNear_walk {w : World} {v : Value} {cl : List Int} (f : Int) (x : WR) (hc : GRows jv 1 w v cl) (hr : ∀ y ∈ cl, R32 y) (hx : WROk w x) (hT : Laid w) (hf : -9223372036854775808 ≤ f ∧ f ≤ 9223372036854775807) :
    Calls Tryd.prog 3 #[v, .int .i64 f, .agg x.cells] w (RetV w (.bool true)) := by
  obtain ⟨n, en⟩ : ∃ n, cl.length = n := ⟨_, rfl⟩
  obtain ⟨a, cap, rfl⟩ := hc.len en
  obtain ⟨b, eb⟩ : ∃ b, w.heap.size = b := ⟨_, rfl⟩
  have hq := heap_alloc_new w (.cells x.cells 26)
  obtain ⟨W, eW⟩ : ∃ W, w.alloc (.cells x.cells 26) = W := ⟨_, rfl⟩
  have hg : Grows w W := by rw [← eW]; exact bl_alloc (Below.refl _ _) _
  rw [eW, eb] at hq
  have HQ := Lib.hid hq
  have HG := Lib.hid hg
  have HC := Lib.hid (And.intro hc hr)
  have HX := Lib.hid hx
  have HT := Lib.hid hT
  have HF := Lib.hid hf
  have EN := Lib.hid en
  clear hc hr hx hT hf hq hg
  go_enter Tryd.func3, Tryd.ntmps3
  go_wp2_with fail
  go_loopw [7, 8] (fun lv iv wr => ∃ (lw : Value) (i : Nat), lw = lv ∧ iv = .int .i64 (i : Int) ∧ i ≤ n ∧ i ≤ 8 ∧ GOwn ic 1 2 wr W.heap.size lw (cl.take i) ∧ Grows W wr) (fun _ iv _ => 8 - (intOf iv).toNat)
  case atStart => exact ⟨_, 0, rfl, rfl, Nat.zero_le _, Nat.zero_le _, World.ownsRow_nil _ _ _ _, Below.refl _ _⟩
  case round =>
    obtain ⟨lv, i, elv, rfl, hi, hi8, ho, hgr⟩ := hrel
    subst elv
    have D0 := Lib.hid (And.intro ho (And.intro hgr (grows_trans _ _ _ HG.out hgr)))
    clear ho hgr
    by_cases hlt : i < n ∧ i < 8
    · obtain ⟨hin, h8⟩ := hlt
      have hil : i < cl.length := by rw [en]; exact hin
      obtain ⟨g, o, cap', he, hml, hgl, hat⟩ := HC.out.1.form en (by omega)
      simp only [Value.slice.injEq, true_and] at he
      obtain ⟨rfl, rfl⟩ := he
      obtain ⟨y, ey⟩ : ∃ y, cl[i] = y := ⟨_, rfl⟩
      obtain ⟨m1, m2⟩ := conv32 (HC.out.2 y (by rw [← ey]; exact List.getElem_mem hil))
      have q0 : wr.cell? ⟨g, o + i, none⟩ = some (.int .i32 y) := by
        have h1 := hat i hil 0 (by decide)
        rw [ey] at h1
        have h2 := (D0.out.2.2.cell (p := ⟨g, o + i * 1 + 0, none⟩) hgl).trans h1
        simpa using h2
      have gz := Nat.lt_of_lt_of_le hgl D0.out.2.2.size
      obtain ⟨v6, W6, hr6, ho6, hg6⟩ := gapp_one kindI64 y D0.out.1 (by rw [List.length_take]; omega) D0.out.2.1.size
      rw [show cl.take i ++ [y] = cl.take (i + 1) by rw [List.take_succ_eq_append_getElem hil, ey]] at ho6
      have D6 := Lib.hid (And.intro ho6 (grows_of_grownBy D0.out.2.1 hg6 (fun j hj => (D0.out.1.lt j hj).1)))
      have hd1 : decide ((i : Int) < (n : Int)) = true := decide_eq_true (by omega)
      have hd2 : decide ((i : Int) < 8) = true := decide_eq_true (by omega)
      have hq1 : (i < n) = True := eq_true hin
      have hq2 : (i < 8) = True := eq_true h8
      have hq3 : (i : Int) < (n : Int) := Int.ofNat_lt.2 hin
      have hq4 : (i : Int) < 8 := by omega
      have HI := Lib.hid (And.intro hin h8)
      clear hat ey hil hml hgl ho6 hg6 hin h8 hi hi8
      go_wp2_with (at_builtin; refine wpList_append_eq _ rfl _ _ 27 27 rfl _ _ rfl rfl (hr6 _) ?_)
      go_roundw
      case rel => exact ⟨_, i + 1, rfl, rfl, HI.out.1, HI.out.2, D6.out.1, D6.out.2⟩
      case measure => exact meas_succ HI.out.2
    · have hex : (decide ((i : Int) < (n : Int)) = false ∧ (i < n) = False) ∨ (decide ((i : Int) < (n : Int)) = true ∧ (i < n) = True ∧ decide ((i : Int) < 8) = false ∧ (i < 8) = False) := by
        by_cases h1 : i < n
        · exact .inr ⟨decide_eq_true (by omega), eq_true h1, decide_eq_false (by omega), eq_false (by omega)⟩
        · exact .inl ⟨decide_eq_false (by omega), eq_false h1⟩
      have hm8 : (cl.take i).length ≤ 1000 := by rw [List.length_take]; omega
      have HWi := Lib.hid (fun W9 (hg9 : Grows wr W9) => (gown_ihas (own_grows D0.out.1 hg9)))
      obtain ⟨la, lc, elv⟩ := GOwn.len kindI64.len D0.out.1 rfl
      subst elv
      obtain ⟨c8, ec8⟩ : ∃ c8, cl.take i = c8 := ⟨_, rfl⟩
      rw [ec8] at hm8 HWi
      obtain ⟨m, em⟩ : ∃ m, c8.length = m := ⟨_, rfl⟩
      rw [em] at hm8
      simp only [ec8, em] at HWi ⊢
      have HB := Lib.hid (box_grows HQ.out D0.out.2.1)
      have GR := Lib.hid D0.out.2.2
      have EM := Lib.hid em
      have HM8 := Lib.hid hm8
      have hx2 : WROk wr x := by
        obtain ⟨h1, h2, ⟨h3, h4⟩, h5, h6⟩ := HX.out
        have g := D0.out.2.2
        exact ⟨h1, h2, ⟨h3.grows g, fun r hr => ⟨(h4 r hr).1.grows g, (h4 r hr).2⟩⟩, h5.grows g, h6⟩
      have HTU := Lib.hid (fun S => turn_any x S hx2)
      obtain ⟨k0, -⟩ := cell_in HB.out 0 rfl
      obtain ⟨k1, -⟩ := cell_in HB.out 1 rfl
      obtain ⟨k2, -⟩ := cell_in HB.out 2 rfl
      obtain ⟨k3, -⟩ := cell_in HB.out 3 rfl
      have zk := box_lt HB.out
      have hr3 : IntKind.i64.wrap (Int.tmod f 3) = Int.tmod f 3 ∧ wrap64 (Int.tmod f 3) = Int.tmod f 3 := by
        have h1 : -9223372036854775808 ≤ Int.tmod f 3 ∧ Int.tmod f 3 ≤ 9223372036854775807 := by
          have := HF.out
          rcases Int.le_total 0 f with h | h
          · rw [Int.tmod_eq_emod_of_nonneg h]; omega
          · have h2 : Int.tmod f 3 = -(Int.tmod (-f) 3) := by rw [Int.neg_tmod, Int.neg_neg]
            rw [h2, Int.tmod_eq_emod_of_nonneg (show 0 ≤ -f by omega)]; omega
        exact ⟨IntWalk.i64_in _ h1, IntWalk.wrap64_in _ h1⟩
      obtain ⟨r3, er3⟩ : ∃ r3, Int.tmod f 3 = r3 := ⟨_, rfl⟩
      rw [er3] at hr3
      obtain ⟨m1, m2⟩ := hr3
      clear hlt hi hi8 hm8 ec8 em D0 hx2
      rcases hex with ⟨hd1, hq1⟩ | ⟨hd1, hq1, hd2, hq2⟩
      all_goals
        by_cases h3 : r3 = 0
        all_goals
          first
            | (subst h3; go_wp2_with fail; refine (HTU.out 85).mono ?_)
            | (have e3 : (r3 == 0) = false := by simp [h3]
               go_wp2_with fail
               refine (HTU.out 255).mono ?_)
          rintro e w3 ⟨hg3, t, rfl, hts, hEh, hDh, hEw, hDw⟩
          have hbit : t.s.testBit 0 = true := by rw [hts]; decide
          have hsz : t.s < 18446744073709551616 := by rw [hts]; decide
          have G3 := Lib.hid (grows_trans _ _ _ GR.out hg3)
          have HONE := Lib.hid (one_any f (HWi.out _ hg3) hEh hDh hsz (HT.out.grows G3.out) (by rw [EM.out]; exact HM8.out) HF.out)
          have HB3 := Lib.hid (box_grows HB.out hg3)
          have HW := Lib.hid (And.intro hbit (And.intro hEw hDw))
          clear hg3 hts hEh hDh hEw hDw hbit hsz k0 k1 k2 k3 zk
          go_wp2_with fail
          refine HONE.out.mono ?_
          rintro e w4 ⟨v4, rfl, hg4, ho4⟩
          obtain ⟨cO, ecO⟩ : ∃ cO, oneI c8 (errsOf t.E) t.D (listN (t.s &&& allN c8.length)) f = cO := ⟨_, rfl⟩
          have hlO : cO.length = m := by rw [← ecO, oneI_length]; exact EM.out
          obtain ⟨oa, oc, rfl⟩ := ho4.len (n := m) (by rw [ecO]; exact hlO)
          rw [ecO] at ho4
          have G4 := Lib.hid (grows_trans _ _ _ G3.out hg4)
          have HSP := Lib.hid (spread_any (s := 255) ho4 (by decide) (HT.out.grows G4.out))
          have HB4 := Lib.hid (box_grows HB3.out hg4)
          have HLO := Lib.hid (And.intro hlO ecO)
          clear hg4 ho4 hlO ecO
          go_wp2_with fail
          refine HSP.out.mono ?_
          rintro e w5 ⟨hg5, hcase⟩
          have G5 := Lib.hid (grows_trans _ _ _ G4.out hg5)
          have hb5 := box_grows HB4.out hg5
          obtain ⟨k0, -⟩ := cell_in hb5 0 rfl
          obtain ⟨k1, -⟩ := cell_in hb5 1 rfl
          have zk := box_lt hb5
          obtain ⟨u1, u2, u3, u4, u5, u6, u7', u8', u9, u10⟩ := mul_wr HX.out.1 HX.out.2.1
          have hmm : ((m : Int) == (m : Int)) = true := beq_self_eq_true _
          have HXE := Lib.hid (show 0 ≤ x.e ∧ 0 ≤ x.dd from ⟨HX.out.1.1, HX.out.2.1.1⟩)
          rw [HLO.out.1] at hcase
          clear hg5 hb5
          rcases hcase with ⟨hnil, rfl⟩ | ⟨lo, hi, hlh, hne, rfl⟩
          · have hm0 : m = 0 := by
              rcases Nat.eq_zero_or_pos m with h | h
              · exact h
              · have := listN_zero_mem (s := 255) (n := m) (by decide) h
                rw [hnil] at this
                cases this
            subst hm0
            have hle : decide ((0 : Int) ≤ 2 * x.e + 2 * x.dd) = true := decide_eq_true (by have := HXE.out; omega)
            have hle2 : (0 : Int) ≤ 2 * x.e + 2 * x.dd := by have := HXE.out; omega
            clear hnil hmm
            go_wp2_with fail
            refine (mendWorks_any _ (HT.out.grows G5.out)).mono ?_
            rintro e w6 ⟨rfl, hg6⟩
            have G6 := Lib.hid (grows_trans _ _ _ G5.out hg6)
            clear hg6
            go_wp2_with fail
            go_ret
            exact ⟨rfl, G6.out⟩
          · have hm0 : 0 < m := by
              rcases Nat.eq_zero_or_pos m with h | h
              · rw [h] at hne; exact absurd (listN_none 255) hne
              · exact h
            have hnear : hi - lo ≤ 2 * x.e + 2 * x.dd := by
              have h1 := HLO.out.2
              have h0 : 0 < (listN (t.s &&& allN c8.length)).length := by
                have h2 := listN_zero_mem (s := t.s) (n := c8.length) HW.out.1 (by rw [EM.out]; exact hm0)
                exact List.length_pos_of_mem h2
              rw [← h1] at hlh
              have h4 : LoHi (oneI c8 (errsOf t.E) t.D (listN (t.s &&& allN c8.length)) f) (255 &&& allN c8.length) (listN (255 &&& allN c8.length)) lo hi := by rw [EM.out] at hlh ⊢; exact hlh
              exact near_end h0 HXE.out.1 HXE.out.2 HW.out.2.1 HW.out.2.2 h4
            have hle : decide (hi - lo ≤ 2 * x.e + 2 * x.dd) = true := decide_eq_true hnear
            have hgt : decide (0 < (m : Int)) = true := decide_eq_true (by omega)
            have hgt2 : (0 < m) = True := eq_true hm0
            have hgt3 : (0 : Int) < (m : Int) := by omega
            have HNE := Lib.hid hnear
            clear hlh hne
            go_wp2_with fail
            refine (mendWorks_any _ (HT.out.grows G5.out)).mono ?_
            rintro e w6 ⟨rfl, hg6⟩
            have G6 := Lib.hid (grows_trans _ _ _ G5.out hg6)
            clear hg6
            go_wp2_with fail
            go_ret
            exact ⟨rfl, G6.out⟩
end Go.Proofs.YthdcmchjlpkkaaaDoor.Tr
