/- The walk of ViewIn. -/
import Derived.Test.YtkihhdoejpjbbaaViewN
import Derived.Test.YtkihhdoejpjbbaaViewI
namespace Go.Proofs.Ytkihhdoejpjbbaa
open Go.RowKit Go.Sort
set_option maxHeartbeats 2000000
set_option maxRecDepth 100000

/-- Does the first view lie ahead of all times? -/
def negB (l : List VW) : Bool := !l.isEmpty && decide ((l.getD 0 ⟨0, 0, 0⟩).tm < 0)
theorem neg_any (vl : Value) (l : List VW) (w : World) (h : VHas w vl l) (hm : l.length ≤ 1000000) :
    Calls Try.prog 27 #[vl] w (fun e w' => e = .returned (.bool (negB l)) ∧ w = w') := by
  by_cases h0 : l = []
  · subst h0
    obtain ⟨a, cap, rfl⟩ := h.len
    clear h
    go_enter Try.func27, Try.ntmps27
    go_wp2_with fail
    go_ret
    exact ⟨rfl, rfl⟩
  · rcases h with ⟨h1, -⟩ | ⟨g, o, cap, rfl, hg, hat⟩
    · exact absurd h1 h0
    have hp : 0 < l.length := List.length_pos_iff.2 h0
    obtain ⟨-, c1, -⟩ := vat_cells hat 0 hp
    have hb : negB l = decide (l[0].tm < 0) := by
      unfold negB
      rw [getD_at hp]
      simp [h0]
    rw [hb]
    obtain ⟨x, ex⟩ : ∃ x, l[0] = x := ⟨_, rfl⟩
    rw [ex] at c1 ⊢
    obtain ⟨n, en⟩ : ∃ n, l.length = n := ⟨_, rfl⟩
    rw [en] at hp hm ⊢
    simp only [Nat.zero_mul, Nat.add_zero] at c1
    have i1 : (0 : Int) < (n : Int) := by omega
    clear hat hb ex en h0
    by_cases hx : x.tm < 0
    · go_enter Try.func27, Try.ntmps27
      go_wp2_with fail
      go_ret
      exact ⟨ret_bool (by simp [hx]), rfl⟩
    · go_enter Try.func27, Try.ntmps27
      go_wp2_with fail
      go_ret
      exact ⟨ret_bool (by simp [hx]), rfl⟩

theorem viewIn_walk (vl : Value) (l : List VW) (q : Nat) (t : Int) (w : World) (h : VHas w vl l) (hm : l.length ≤ 9223372036854775807) (hok : AllOk l) (hq : q < 256) :
    Calls Try.prog 5 #[vl, .int .u8 (q : Int), .int .i64 t] w (RetV w (.bool true)) := by
  obtain ⟨nn, en⟩ : ∃ nn, q % 64 = nn := ⟨_, rfl⟩
  have e1 : (q : Int) % 64 = (nn : Int) := by omega
  have e2 : (q : Int).tmod 64 = (nn : Int) := by rw [Int.tmod_eq_emod_of_nonneg (by omega)]; omega
  have hnn : nn < 64 := by omega
  have e3 : IntKind.i64.wrap (nn : Int) = (nn : Int) := IntWalk.i64_in _ (by omega)
  clear en
  go_enter Try.func5, Try.ntmps5
  go_wp2_with fail
  refine (made_any vl l w h hm hok).mono ?_
  rintro e w1 ⟨b, v, rv, rfl, hb1, hv1, hr1, hok1, hlen1⟩
  have hris := rises_made l
  obtain ⟨acc, eacc⟩ : ∃ acc, madeN l = acc := ⟨_, rfl⟩
  rw [eacc] at hv1 hr1 hok1 hlen1 hris
  have HB1 := Lib.hid hb1
  have hlm : acc.length ≤ 1000000 := by omega
  have C1 := Lib.hid (fun W (hg : Grows w1 W) => list_any W (hv1.grows hg) hlm)
  have C2 := Lib.hid (fun W (hg : Grows w1 W) => at_any W (hv1.grows hg) hlm t)
  have C3 := Lib.hid (fun W (hg : Grows w1 W) => spans_any W (hv1.grows hg) hlm hok1 (nn : Int))
  have HRIS := Lib.hid hris
  have HOK := Lib.hid hok1
  have hsl := spansN_length (nn : Int) acc
  clear hb1 hv1 hr1 hok1 eacc h hris
  go_wp2_with fail
  refine (C1.out w1 (Below.refl _ _)).mono ?_
  rintro e w2 ⟨va, rfl, hg2, ho2⟩
  have G2 := Lib.hid hg2
  have VA := Lib.hid (vown_has ho2)
  clear hg2 ho2
  obtain ⟨a, cap, rfl⟩ := VA.out.len
  obtain ⟨n, en⟩ : ∃ n, acc.length = n := ⟨_, rfl⟩
  have EN := Lib.hid en
  rw [en] at hlen1 hsl ⊢
  clear en
  go_wp2_with fail
  go_loopw [12] (fun iv wr => ∃ k m : Nat, iv = .int .i64 (k : Int) ∧ 1 ≤ k ∧ (k ≤ n ∨ k = 1) ∧ wr = w2.drewN m) (fun iv _ => n - (intOf iv).toNat)
  case atStart => exact ⟨1, 0, rfl, Nat.le_refl _, .inr rfl, rfl⟩
  case round =>
    obtain ⟨k, m, rfl, hk1, hkn, rfl⟩ := hrel
    by_cases hlt : k < n
    · rcases VA.out with ⟨hz, -⟩ | ⟨g, o, cap2, hsl2, hg, hat⟩
      · exfalso; have := EN.out; rw [hz] at this; simp at this; omega
      obtain ⟨rfl, rfl⟩ : a = some ⟨g, o, none⟩ ∧ cap = cap2 := by
        simp only [EN.out, Value.slice.injEq, true_and] at hsl2
        exact hsl2
      obtain ⟨j, hj⟩ : ∃ j, k = j + 1 := ⟨k - 1, by omega⟩
      obtain ⟨c0, c1, -⟩ := vat_cells hat k (by rw [EN.out]; exact hlt)
      obtain ⟨d0, d1, -⟩ := vat_cells hat j (by rw [EN.out]; omega)
      have hxy := (List.pairwise_iff_getElem.1 HRIS.out) j k (by rw [EN.out]; omega) (by rw [EN.out]; omega) (by omega)
      obtain ⟨x, ex⟩ : ∃ x, acc[k]'(by rw [EN.out]; exact hlt) = x := ⟨_, rfl⟩
      obtain ⟨y, ey⟩ : ∃ x, acc[j]'(by rw [EN.out]; omega) = x := ⟨_, rfl⟩
      rw [ex] at c0 c1 hxy
      rw [ey] at d0 d1 hxy
      obtain ⟨z1, z2⟩ := hxy
      have f1 : decide (x.no ≤ y.no) = false := by simp; omega
      have f2 : decide (x.tm < y.tm) = false := by simp; omega
      have i1 : (0 : Int) ≤ (k : Int) := by omega
      have i2 : (k : Int) < (n : Int) := by omega
      have i3 : (0 : Int) ≤ (j : Int) := by omega
      have i4 : (j : Int) < (n : Int) := by omega
      have i5 : IntKind.i64.wrap ((k : Int) - 1) = (j : Int) := by rw [IntWalk.i64_in _ (by omega)]; omega
      have i6 : wrap64 ((k : Int) - 1) = (j : Int) := by rw [← wrapEq]; exact i5
      clear hsl2 hat ex ey z1 z2 hj
      go_wp2_with fail
      refine wp_region_quiet_lit (by kernel_rfl) (by kernel_rfl) ?_
      repeat (first | go_big_quiet_step ((fail)) | quiet_step ((fail)))
      refine wpQuiet_nil ?_
      intro _ hcw1
      obtain ⟨nq, hcw2⟩ := hcw1
      subst hcw2
      as_aux_lemma =>
        go_wp2_with fail
        go_roundw
        case rel => exact ⟨k + 1, m + nq, by go_num, by omega, .inl (by omega), rfl⟩
        case measure => simp [intOf]; omega
    · clear hk1 hkn
      go_wp2_with fail
      refine (C3.out _ (bl_drewN G2.out m)).mono ?_
      rintro e w3 ⟨vs, rfl, hg3, ho3⟩
      have hright := spans_right (nn : Int) HRIS.out
      have hin := fun h0 => spans_in (nn : Int) t HRIS.out h0
      obtain ⟨sp, esp⟩ : ∃ sp, spansN (nn : Int) acc = sp := ⟨_, rfl⟩
      rw [esp] at ho3 hright hin hsl
      have G3 := Lib.hid (grows_trans _ _ _ (bl_drewN G2.out m) hg3)
      have G2W := Lib.hid (show Grows w2 w3 from grows_trans _ _ _ (bl_drewN (Below.refl _ _) m) hg3)
      have HRT := Lib.hid hright
      have HIN := Lib.hid hin
      have PS := Lib.hid (pown_has ho3)
      obtain ⟨a3, cap3, rfl⟩ := PS.out.len
      obtain ⟨s, es⟩ : ∃ s, sp.length = s := ⟨_, rfl⟩
      have ES := Lib.hid es
      rw [es] at hsl ⊢
      clear hg3 ho3 esp hright hin es
      go_wp2_with fail
      go_loopw [13, 65] (fun bv iv wr => ∃ i : Nat, iv = .int .i64 (i : Int) ∧ i ≤ s ∧ bv = .bool ((sp.take i).any (inSpan t)) ∧ Grows w3 wr) (fun _ iv _ => s - (intOf iv).toNat)
      case atStart => exact ⟨0, rfl, Nat.zero_le _, rfl, Below.refl _ _⟩
      case round =>
        obtain ⟨i, rfl, his, rfl, hgr⟩ := hrel
        by_cases hlt2 : i < s
        · rcases PS.out with ⟨hz, -⟩ | ⟨g, o, cap2, hsl2, hg, hat⟩
          · exfalso; have := ES.out; rw [hz] at this; simp at this; omega
          obtain ⟨rfl, rfl⟩ : a3 = some ⟨g, o, none⟩ ∧ cap3 = cap2 := by
            simp only [ES.out, Value.slice.injEq, true_and] at hsl2
            exact hsl2
          have hil : i < sp.length := by rw [ES.out]; exact hlt2
          obtain ⟨c0, c1⟩ := pat_cells (hat.grows hgr hg) i hil
          have hst : (sp.take (i + 1)).any (inSpan t) = ((sp.take i).any (inSpan t) || inSpan t sp[i]) := by
            rw [List.take_succ_eq_append_getElem hil, List.any_append]; simp
          have hr := HRT.out _ (List.getElem_mem hil)
          obtain ⟨⟨u1, u2⟩, ex⟩ : ∃ x, sp[i] = x := ⟨_, rfl⟩
          rw [ex] at c0 c1 hst hr
          simp only at c0 c1 hr
          have hiv : inSpan t (u1, u2) = (decide (u1 ≤ t) && (decide (u2 = -1) || decide (t < u2))) := rfl
          rw [hiv] at hst
          obtain ⟨pb, epb⟩ : ∃ pb, (sp.take i).any (inSpan t) = pb := ⟨_, rfl⟩
          rw [epb] at hst ⊢
          have HST := Lib.hid hst
          have HGR := Lib.hid hgr
          have hgw : g < wr.heap.size := Nat.lt_of_lt_of_le hg hgr.size
          clear hst hgr hsl2 hat ex epb hiv hlt
          by_cases hu : u2 = -1
          · subst hu
            clear hr
            cases pb
            · by_cases hu1 : u1 ≤ t
              · as_aux_lemma =>
                  go_wp2_with fail
                  go_roundw
                  case rel => exact ⟨i + 1, by go_num, by omega, by rw [HST.out]; simp [hu1], by show Below _ _ _; exact bl_trans HGR.out (by (repeat (first | with_reducible exact Below.refl _ _ | with_reducible refine bl_alloc ?_ _ | ((with_reducible refine bl_set ?_ ?_ _); rotate_left; (first | exact Nat.le_refl _ | exact Nat.le_succ_of_le (Nat.le_refl _) | (simp only []; omega))) | with_reducible refine bl_drewN ?_ _ | with_reducible refine bl_drew ?_ | with_reducible refine bl_reg ?_ _)))⟩
                  case measure => simp [intOf]; omega
              · as_aux_lemma =>
                  go_wp2_with fail
                  go_roundw
                  case rel => exact ⟨i + 1, by go_num, by omega, by rw [HST.out]; simp [hu1], by show Below _ _ _; exact bl_trans HGR.out (by (repeat (first | with_reducible exact Below.refl _ _ | with_reducible refine bl_alloc ?_ _ | ((with_reducible refine bl_set ?_ ?_ _); rotate_left; (first | exact Nat.le_refl _ | exact Nat.le_succ_of_le (Nat.le_refl _) | (simp only []; omega))) | with_reducible refine bl_drewN ?_ _ | with_reducible refine bl_drew ?_ | with_reducible refine bl_reg ?_ _)))⟩
                  case measure => simp [intOf]; omega
            · as_aux_lemma =>
                go_wp2_with fail
                go_roundw
                case rel => exact ⟨i + 1, by go_num, by omega, by rw [HST.out]; simp, by show Below _ _ _; exact bl_trans HGR.out (by (repeat (first | with_reducible exact Below.refl _ _ | with_reducible refine bl_alloc ?_ _ | ((with_reducible refine bl_set ?_ ?_ _); rotate_left; (first | exact Nat.le_refl _ | exact Nat.le_succ_of_le (Nat.le_refl _) | (simp only []; omega))) | with_reducible refine bl_drewN ?_ _ | with_reducible refine bl_drew ?_ | with_reducible refine bl_reg ?_ _)))⟩
                case measure => simp [intOf]; omega
          · have hr2 := hr.resolve_left hu
            have hr3 : ¬ u2 < u1 := by omega
            have n1 : (u2 != -1) = true := by simp [hu]
            have n2 : (u2 == -1) = false := by simp [hu]
            have HU := Lib.hid hu
            clear hr hu
            cases pb
            · by_cases hu1 : u1 ≤ t
              · by_cases hu2 : t < u2
                · as_aux_lemma =>
                    go_wp2_with fail
                    go_roundw
                    case rel => exact ⟨i + 1, by go_num, by omega, by rw [HST.out]; simp [hu1, hu2], by show Below _ _ _; exact bl_trans HGR.out (by (repeat (first | with_reducible exact Below.refl _ _ | with_reducible refine bl_alloc ?_ _ | ((with_reducible refine bl_set ?_ ?_ _); rotate_left; (first | exact Nat.le_refl _ | exact Nat.le_succ_of_le (Nat.le_refl _) | (simp only []; omega))) | with_reducible refine bl_drewN ?_ _ | with_reducible refine bl_drew ?_ | with_reducible refine bl_reg ?_ _)))⟩
                    case measure => simp [intOf]; omega
                · as_aux_lemma =>
                    go_wp2_with fail
                    go_roundw
                    case rel => exact ⟨i + 1, by go_num, by omega, by rw [HST.out]; simp [hu2, HU.out], by show Below _ _ _; exact bl_trans HGR.out (by (repeat (first | with_reducible exact Below.refl _ _ | with_reducible refine bl_alloc ?_ _ | ((with_reducible refine bl_set ?_ ?_ _); rotate_left; (first | exact Nat.le_refl _ | exact Nat.le_succ_of_le (Nat.le_refl _) | (simp only []; omega))) | with_reducible refine bl_drewN ?_ _ | with_reducible refine bl_drew ?_ | with_reducible refine bl_reg ?_ _)))⟩
                    case measure => simp [intOf]; omega
              · as_aux_lemma =>
                  go_wp2_with fail
                  go_roundw
                  case rel => exact ⟨i + 1, by go_num, by omega, by rw [HST.out]; simp [hu1], by show Below _ _ _; exact bl_trans HGR.out (by (repeat (first | with_reducible exact Below.refl _ _ | with_reducible refine bl_alloc ?_ _ | ((with_reducible refine bl_set ?_ ?_ _); rotate_left; (first | exact Nat.le_refl _ | exact Nat.le_succ_of_le (Nat.le_refl _) | (simp only []; omega))) | with_reducible refine bl_drewN ?_ _ | with_reducible refine bl_drew ?_ | with_reducible refine bl_reg ?_ _)))⟩
                  case measure => simp [intOf]; omega
            · as_aux_lemma =>
                go_wp2_with fail
                go_roundw
                case rel => exact ⟨i + 1, by go_num, by omega, by rw [HST.out]; simp, by show Below _ _ _; exact bl_trans HGR.out (by (repeat (first | with_reducible exact Below.refl _ _ | with_reducible refine bl_alloc ?_ _ | ((with_reducible refine bl_set ?_ ?_ _); rotate_left; (first | exact Nat.le_refl _ | exact Nat.le_succ_of_le (Nat.le_refl _) | (simp only []; omega))) | with_reducible refine bl_drewN ?_ _ | with_reducible refine bl_drew ?_ | with_reducible refine bl_reg ?_ _)))⟩
                case measure => simp [intOf]; omega
        · obtain rfl : i = s := by omega
          have hany : (sp.take i).any (inSpan t) = sp.any (inSpan t) := by rw [List.take_of_length_le (by rw [ES.out]; exact Nat.le_refl _)]
          rw [hany]
          have HGR := Lib.hid (grows_trans _ _ _ G3.out hgr)
          have VA2 := Lib.hid (fun W (hg : Grows w1 W) (hg2 : Grows w2 W) => neg_any _ acc W (VA.out.grows hg2) hlm)
          have G23 := Lib.hid (grows_trans _ _ _ (show Grows w2 w3 from G2W.out) hgr)
          clear hany hgr hlt PS HRT
          go_wp2_with fail
          refine (C2.out _ HGR.out).mono ?_
          rintro e w4 ⟨i2, hf2, rfl, hg4⟩
          have hx := lastTo_found HRIS.out hf2
          have hxok : (aheadV acc i2).set < 18446744073709551616 := by
            unfold aheadV
            split
            · decide
            · have hi2 := (found_all HRIS.out hf2).1
              rw [getD_at (by omega)]
              exact (HOK.out _ (List.getElem_mem _)).2.2
          have hfin : negB acc = false → sp.any (inSpan t) = hasN (aheadV acc i2).set (nn : Int) := by
            intro hn
            rw [hx]
            refine HIN.out (fun y hy => ?_)
            obtain ⟨j, hj, rfl⟩ := List.getElem_of_mem hy
            have h1 : 0 ≤ acc[0].tm := by
              unfold negB at hn
              rw [getD_at (by omega)] at hn
              have hne : acc ≠ [] := fun hc => by rw [hc] at hj; simp at hj
              simpa [hne] using hn
            have := rises_tm HRIS.out (show 0 < acc.length by omega) hj (Nat.zero_le _)
            omega
          obtain ⟨p, rfl⟩ := regr hg4
          obtain ⟨x, ex⟩ : ∃ x, aheadV acc i2 = x := ⟨_, rfl⟩
          rw [ex] at hfin hxok ⊢
          obtain ⟨xb, exb⟩ : ∃ x, decide (i2 ≠ 0) = x := ⟨_, rfl⟩
          rw [exb]
          obtain ⟨ib, eib⟩ : ∃ x, sp.any (inSpan t) = x := ⟨_, rfl⟩
          rw [eib] at hfin ⊢
          have hneg := VA2.out ((reg wr p).alloc (.cells #[.int .i64 x.no, .int .i64 x.tm, .int .u64 (x.set : Int)] 29)) (grows_trans _ _ _ HGR.out (by show Below wr.heap.size wr _; (repeat (first | with_reducible exact Below.refl _ _ | with_reducible refine bl_alloc ?_ _ | ((with_reducible refine bl_set ?_ ?_ _); rotate_left; (first | exact Nat.le_refl _ | exact Nat.le_succ_of_le (Nat.le_refl _) | (simp only []; omega))) | with_reducible refine bl_drewN ?_ _ | with_reducible refine bl_drew ?_ | with_reducible refine bl_reg ?_ _)))) (grows_trans _ _ _ G23.out (by show Below wr.heap.size wr _; (repeat (first | with_reducible exact Below.refl _ _ | with_reducible refine bl_alloc ?_ _ | ((with_reducible refine bl_set ?_ ?_ _); rotate_left; (first | exact Nat.le_refl _ | exact Nat.le_succ_of_le (Nat.le_refl _) | (simp only []; omega))) | with_reducible refine bl_drewN ?_ _ | with_reducible refine bl_drew ?_ | with_reducible refine bl_reg ?_ _))))
          rw [EN.out] at hneg
          have hhas := fun W => rhas_any x.set (nn : Int) hxok W
          have HH := Lib.hid hhas
          have HFIN := Lib.hid hfin
          clear hg4 hf2 hx hxok ex exb eib hhas hfin VA2 HIN
          by_cases ht : t < 0
          · as_aux_lemma =>
              clear hneg
              go_wp2_with (go_at_call 18; refine (viewWorks_any _).mono ?_; rintro e w9 ⟨rfl, hb9⟩)
              go_ret
              exact ⟨rfl, HB1.out.trans (Below.mono (grows_trans w1 wr _ HGR.out (bl_trans (by show Below wr.heap.size wr _; (repeat (first | with_reducible exact Below.refl _ _ | with_reducible refine bl_alloc ?_ _ | ((with_reducible refine bl_set ?_ ?_ _); rotate_left; (first | exact Nat.le_refl _ | exact Nat.le_succ_of_le (Nat.le_refl _) | (simp only []; omega))) | with_reducible refine bl_drewN ?_ _ | with_reducible refine bl_drew ?_ | with_reducible refine bl_reg ?_ _))) hb9)) HB1.out.size)⟩
          · cases hnb : negB acc
            · rw [hnb] at hneg
              have hval := HFIN.out hnb
              rw [← hval] at HH
              have HN := Lib.hid hneg
              clear hneg hnb hval HFIN
              cases ib
              · as_aux_lemma =>
                  go_wp2_with (first | (go_at_call 27; refine (HN.out).mono ?_; rintro e w9 ⟨rfl, rfl⟩) | (go_at_call 28; refine (HH.out _).mono ?_; rintro e w9 ⟨rfl, rfl⟩) | (go_at_call 18; refine (viewWorks_any _).mono ?_; rintro e w9 ⟨rfl, hb9⟩))
                  go_ret
                  exact ⟨rfl, HB1.out.trans (Below.mono (grows_trans w1 wr _ HGR.out (bl_trans (by show Below wr.heap.size wr _; (repeat (first | with_reducible exact Below.refl _ _ | with_reducible refine bl_alloc ?_ _ | ((with_reducible refine bl_set ?_ ?_ _); rotate_left; (first | exact Nat.le_refl _ | exact Nat.le_succ_of_le (Nat.le_refl _) | (simp only []; omega))) | with_reducible refine bl_drewN ?_ _ | with_reducible refine bl_drew ?_ | with_reducible refine bl_reg ?_ _))) hb9)) HB1.out.size)⟩
              · as_aux_lemma =>
                  go_wp2_with (first | (go_at_call 27; refine (HN.out).mono ?_; rintro e w9 ⟨rfl, rfl⟩) | (go_at_call 28; refine (HH.out _).mono ?_; rintro e w9 ⟨rfl, rfl⟩) | (go_at_call 18; refine (viewWorks_any _).mono ?_; rintro e w9 ⟨rfl, hb9⟩))
                  go_ret
                  exact ⟨rfl, HB1.out.trans (Below.mono (grows_trans w1 wr _ HGR.out (bl_trans (by show Below wr.heap.size wr _; (repeat (first | with_reducible exact Below.refl _ _ | with_reducible refine bl_alloc ?_ _ | ((with_reducible refine bl_set ?_ ?_ _); rotate_left; (first | exact Nat.le_refl _ | exact Nat.le_succ_of_le (Nat.le_refl _) | (simp only []; omega))) | with_reducible refine bl_drewN ?_ _ | with_reducible refine bl_drew ?_ | with_reducible refine bl_reg ?_ _))) hb9)) HB1.out.size)⟩
            · rw [hnb] at hneg
              have HN := Lib.hid hneg
              clear hneg hnb HFIN HH
              as_aux_lemma =>
                go_wp2_with (first | (go_at_call 27; refine (HN.out).mono ?_; rintro e w9 ⟨rfl, rfl⟩) | (go_at_call 18; refine (viewWorks_any _).mono ?_; rintro e w9 ⟨rfl, hb9⟩))
                go_ret
                exact ⟨rfl, HB1.out.trans (Below.mono (grows_trans w1 wr _ HGR.out (bl_trans (by show Below wr.heap.size wr _; (repeat (first | with_reducible exact Below.refl _ _ | with_reducible refine bl_alloc ?_ _ | ((with_reducible refine bl_set ?_ ?_ _); rotate_left; (first | exact Nat.le_refl _ | exact Nat.le_succ_of_le (Nat.le_refl _) | (simp only []; omega))) | with_reducible refine bl_drewN ?_ _ | with_reducible refine bl_drew ?_ | with_reducible refine bl_reg ?_ _))) hb9)) HB1.out.size)⟩
end Go.Proofs.Ytkihhdoejpjbbaa
