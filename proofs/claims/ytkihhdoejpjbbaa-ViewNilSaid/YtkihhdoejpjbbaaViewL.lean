/- The walks of ViewFinds and ViewNil. -/
import Derived.Test.YtkihhdoejpjbbaaViewK
import Derived.Test.YtkihhdoejpjbbaaViewI
namespace Go.Proofs.Ytkihhdoejpjbbaa
open Go.RowKit Go.Sort
set_option maxHeartbeats 2000000
set_option maxRecDepth 100000

theorem viewNil_walk (no : Int) (w : World) : Calls Try.prog 11 #[.int .i64 no] w (RetV w (.bool true)) := by
  go_enter Try.func11, Try.ntmps11
  go_wp2_with fail
  refine (last_nil _).mono ?_
  rintro e w1 ⟨rfl, hb1⟩
  obtain ⟨p1, rfl⟩ := regr hb1
  clear hb1
  go_wp2_with fail
  refine (of_nil _ no).mono ?_
  rintro e w1 ⟨rfl, hb1⟩
  obtain ⟨p2, rfl⟩ := regr hb1
  clear hb1
  go_wp2_with fail
  refine (at_nil _ no).mono ?_
  rintro e w1 ⟨rfl, hb1⟩
  obtain ⟨p3, rfl⟩ := regr hb1
  clear hb1
  go_wp2_with fail
  refine (install_nil _ ⟨0, 0, 0⟩).mono ?_
  rintro e w1 ⟨rfl, hb1⟩
  obtain ⟨p4, rfl⟩ := regr hb1
  clear hb1
  go_wp2_with (first | (go_at_call 17; refine (list_nil _).mono ?_; rintro e w' ⟨rfl, rfl⟩) | (go_at_call 20; refine (spans_nil _ 3).mono ?_; rintro e w' ⟨rfl, rfl⟩))
  refine (came_nil _).mono ?_
  rintro e w1 ⟨rfl, hb1⟩
  obtain ⟨p5, rfl⟩ := regr hb1
  clear hb1
  go_wp2_with fail
  refine (went_nil _).mono ?_
  rintro e w1 ⟨rfl, hb1⟩
  obtain ⟨p6, rfl⟩ := regr hb1
  clear hb1
  go_wp2_with fail
  refine (viewWorks_any _).mono ?_
  rintro e w1 ⟨rfl, hb1⟩
  obtain ⟨p7, rfl⟩ := regr hb1
  clear hb1
  go_wp2_with fail
  go_ret
  exact ⟨rfl, by (repeat (first | with_reducible exact Below.refl _ _ | with_reducible refine bl_alloc ?_ _ | ((with_reducible refine bl_set ?_ ?_ _); rotate_left; (first | exact Nat.le_refl _ | exact Nat.le_succ_of_le (Nat.le_refl _) | (simp only []; omega))) | with_reducible refine bl_drewN ?_ _ | with_reducible refine bl_drew ?_ | with_reducible refine bl_reg ?_ _))⟩

/-- The last view with a number, as the statement looks for it. -/
def wantTo (l : List VW) (no : Int) : Nat → VW × Bool
  | 0 => (⟨0, 0, 0⟩, false)
  | k + 1 => if (l.getD k ⟨0, 0, 0⟩).no = no then (l.getD k ⟨0, 0, 0⟩, true) else wantTo l no k
theorem want_found {no : Int} {l : List VW} {i : Nat} (hr : Rises l) (h : FoundIn .no no l i) : wantTo l no l.length = (ofV l no i, ofB l no i) := by
  obtain ⟨h1, h2⟩ := found_all hr h
  have key : ∀ k, k ≤ l.length → wantTo l no k = if i ≤ k ∧ ofB l no i = true then (aheadV l i, true) else (⟨0, 0, 0⟩, false) := by
    intro k
    induction k with
    | zero =>
      intro _
      unfold wantTo
      rw [if_neg]
      rintro ⟨h3, h4⟩
      simp [ofB] at h4
      omega
    | succ k ih =>
      intro hk
      have h3 := h2 k (by omega)
      simp only [Asked.of, decide_eq_true_eq] at h3
      unfold wantTo
      rw [getD_at (by omega), ih (by omega)]
      by_cases he : l[k].no = no
      · rw [if_pos he]
        have hki : ¬ i ≤ k := fun hc => by have := h3.2 hc; omega
        have hik : i = k + 1 := by
          apply Decidable.byContradiction
          intro hne
          have h4 := h2 (k + 1) (by omega)
          simp only [Asked.of, decide_eq_true_eq] at h4
          have h5 := (List.pairwise_iff_getElem.1 hr) k (k + 1) (by omega) (by omega) (by omega)
          have : ¬ i ≤ k + 1 := by omega
          have : ¬ no < l[k + 1].no := fun hc => this (h4.1 hc)
          omega
        subst hik
        have ha : aheadV l (k + 1) = l[k] := by
          unfold aheadV
          rw [if_neg (by omega), Nat.add_sub_cancel, getD_at (by omega)]
        have hb : ofB l no (k + 1) = true := by simp [ofB, ha, he]
        rw [if_pos ⟨Nat.le_refl _, hb⟩, ha]
      · rw [if_neg he]
        by_cases hb : ofB l no i = true
        · have hik : i ≠ k + 1 := by
            rintro rfl
            simp only [ofB, Bool.and_eq_true, decide_eq_true_eq] at hb
            apply he
            have := hb.2
            unfold aheadV at this
            rw [if_neg (by omega), Nat.add_sub_cancel, getD_at (by omega)] at this
            exact this
          by_cases hik2 : i ≤ k
          · rw [if_pos ⟨hik2, hb⟩, if_pos ⟨by omega, hb⟩]
          · rw [if_neg (fun hc => hik2 hc.1), if_neg (fun hc => by omega)]
        · rw [if_neg (fun hc => hb hc.2), if_neg (fun hc => hb hc.2)]
  rw [key _ (Nat.le_refl _)]
  unfold ofV
  cases hb : ofB l no i
  · simp
  · rw [if_pos ⟨h1, rfl⟩]; rfl

/-- The head of the statement's own loop. -/
def WantRel (w1 : World) (l : List VW) (no : Int) (hs iv : Value) (wr : World) : Prop :=
  ∃ k : Nat, iv = .int .i64 (k : Int) ∧ k ≤ l.length ∧ hs = .bool (wantTo l no k).2 ∧ Below w1.heap.size w1 wr ∧ w1.heap.size < wr.heap.size ∧ (∀ j, wr.frozen? ⟨w1.heap.size, j, none⟩ = false) ∧
    wr.cell? ⟨w1.heap.size, 0, none⟩ = some (.int .i64 (wantTo l no k).1.no) ∧ wr.cell? ⟨w1.heap.size, 1, none⟩ = some (.int .i64 (wantTo l no k).1.tm) ∧ wr.cell? ⟨w1.heap.size, 2, none⟩ = some (.int .u64 ((wantTo l no k).1.set : Int))

theorem viewFinds_walk (vl : Value) (l : List VW) (no t : Int) (w : World) (h : VHas w vl l) (hm : l.length ≤ 9223372036854775807) (hok : AllOk l) :
    Calls Try.prog 7 #[vl, .int .i64 no, .int .i64 t] w (RetV w (.bool true)) := by
  go_enter Try.func7, Try.ntmps7
  go_wp2_with fail
  refine (made_any vl l w h hm hok).mono ?_
  rintro e w1 ⟨b, v, rv, rfl, hb1, hv1, hr1, hok1, hlen1⟩
  have hris := rises_made l
  obtain ⟨acc, eacc⟩ : ∃ acc, madeN l = acc := ⟨_, rfl⟩
  rw [eacc] at hv1 hr1 hok1 hlen1 hris
  have HB1 := Lib.hid hb1
  have hlm : acc.length ≤ 1000000 := by omega
  have hrh := vown_has hr1.1
  have C1 := Lib.hid (fun W (hg : Grows w1 W) => of_any W (hv1.grows hg) hlm no)
  have C2 := Lib.hid (fun W (hg : Grows w1 W) => at_any W (hv1.grows hg) hlm t)
  have C3 := Lib.hid (fun W (hg : Grows w1 W) => rat_any rv acc t W (hrh.grows hg) hlm)
  have HRIS := Lib.hid hris
  clear hb1 hv1 hok1 eacc h hris
  rcases hrh with ⟨rfl, a, cap, rfl⟩ | ⟨g, o, cap, rfl, hg, hat⟩
  · obtain ⟨rfl, rfl⟩ : a = none ∧ cap = 0 := by
      have := hr1.2 rfl
      simp only [Value.slice.injEq, true_and] at this
      exact this
    clear hr1
    go_wp2_with fail
    go_loopw [11, 27] (fun hs iv wr => hs = .bool false ∧ iv = .int .i64 0 ∧ wr = w1.alloc (.cells #[.int .i64 0, .int .i64 0, .int .u64 0] 29)) (fun _ _ _ => 0)
    case atStart => exact ⟨rfl, rfl, rfl⟩
    case round =>
      obtain ⟨rfl, rfl, rfl⟩ := hrel
      go_wp2_with fail
      refine (C1.out _ (bl_alloc (Below.refl _ _) _)).mono ?_
      rintro e w2 ⟨i, hf, rfl, hg2⟩
      obtain rfl : i = 0 := by have := hf.1; simpa using this
      obtain ⟨p, rfl⟩ := regr hg2
      have e1 : ofV [] no 0 = ⟨0, 0, 0⟩ := rfl
      have e2 : ofB [] no 0 = false := rfl
      rw [e1, e2]
      clear hf hg2 e1 e2
      go_wp2_with fail
      refine (C2.out _ (by show Below w1.heap.size w1 _; (repeat (first | with_reducible exact Below.refl _ _ | with_reducible refine bl_alloc ?_ _ | ((with_reducible refine bl_set ?_ ?_ _); rotate_left; (first | exact Nat.le_refl _ | exact Nat.le_succ_of_le (Nat.le_refl _) | (simp only []; omega))) | with_reducible refine bl_drewN ?_ _ | with_reducible refine bl_drew ?_ | with_reducible refine bl_reg ?_ _)))).mono ?_
      rintro e w3 ⟨i2, hf2, rfl, hg3⟩
      obtain rfl : i2 = 0 := by have := hf2.1; simpa using this
      obtain ⟨p2, rfl⟩ := regr hg3
      have e1 : aheadV [] 0 = ⟨0, 0, 0⟩ := rfl
      rw [e1]
      clear hf2 hg3 e1
      go_wp2_with fail
      refine (C3.out _ (by show Below w1.heap.size w1 _; (repeat (first | with_reducible exact Below.refl _ _ | with_reducible refine bl_alloc ?_ _ | ((with_reducible refine bl_set ?_ ?_ _); rotate_left; (first | exact Nat.le_refl _ | exact Nat.le_succ_of_le (Nat.le_refl _) | (simp only []; omega))) | with_reducible refine bl_drewN ?_ _ | with_reducible refine bl_drew ?_ | with_reducible refine bl_reg ?_ _)))).mono ?_
      rintro e w4 ⟨rfl, rfl⟩
      have e1 : atN [] t = -1 := rfl
      rw [e1]
      clear e1
      go_wp2_with fail
      refine wp_region_reg (by kernel_rfl) (by kernel_rfl) ?_
      repeat (first | go_big_quiet_step ((first | (go_at_call 18; exact class_reg (viewWorks_any _)))) | quiet_step ((first | (go_at_call 18; exact class_reg (viewWorks_any _)))))
      refine wpQuiet_nil ?_
      intro _ hcw1
      obtain ⟨pq, hcw2⟩ := hcw1
      subst hcw2
      go_wp2_with fail
      go_ret
      exact ⟨rfl, HB1.out.trans (Below.mono (by show Below w1.heap.size w1 _; (repeat (first | with_reducible exact Below.refl _ _ | with_reducible refine bl_alloc ?_ _ | ((with_reducible refine bl_set ?_ ?_ _); rotate_left; (first | exact Nat.le_refl _ | exact Nat.le_succ_of_le (Nat.le_refl _) | (simp only []; omega))) | with_reducible refine bl_drewN ?_ _ | with_reducible refine bl_drew ?_ | with_reducible refine bl_reg ?_ _))) HB1.out.size)⟩
  · obtain ⟨n, en⟩ : ∃ n, acc.length = n := ⟨_, rfl⟩
    rw [en] at C3 ⊢
    have EN := Lib.hid en
    have HAT := Lib.hid hat
    clear en hat hr1
    go_wp2_with fail
    go_loopw [11, 27] (fun hs iv wr => WantRel w1 acc no hs iv wr) (fun _ iv _ => n - (intOf iv).toNat)
    case atStart =>
      refine ⟨0, rfl, Nat.zero_le _, rfl, bl_alloc (Below.refl _ _) _, by simp, by simp [go_sem], ?_, ?_, ?_⟩
      · simp [go_sem, wantTo]
      · simp [go_sem, wantTo]
      · simp [go_sem, wantTo]
    case round =>
      obtain ⟨k, rfl, hk, rfl, hbl, hsz, hfz, d0, d1, d2⟩ := hrel
      rw [EN.out] at hk
      by_cases hlt : k < n
      · have hkl : k < acc.length := by rw [EN.out]; exact hlt
        obtain ⟨c0, c1, c2⟩ := vat_cells (HAT.out.grows hbl hg) k hkl
        have hst : wantTo acc no (k + 1) = if (acc.getD k ⟨0, 0, 0⟩).no = no then (acc.getD k ⟨0, 0, 0⟩, true) else wantTo acc no k := rfl
        rw [getD_at hkl] at hst
        obtain ⟨x, ex⟩ : ∃ x, acc[k] = x := ⟨_, rfl⟩
        rw [ex] at c0 c1 c2 hst
        obtain ⟨⟨y, yb⟩, ey⟩ : ∃ y, wantTo acc no k = y := ⟨_, rfl⟩
        rw [ey] at hst d0 d1 d2 ⊢
        simp only at d0 d1 d2 ⊢
        have hfz2 : ∀ o j, (wr.alloc o).frozen? ⟨w1.heap.size, j, none⟩ = false := fun o j => ((bl_alloc (Below.refl _ _) o : Below wr.heap.size wr _).frozen (p := ⟨w1.heap.size, j, none⟩) hsz).trans (hfz j)
        have HST := Lib.hid hst
        have HBL := Lib.hid hbl
        have hgw : g < wr.heap.size := Nat.lt_of_lt_of_le hg hbl.size
        clear hst hbl ex ey
        by_cases hx : x.no = no
        · obtain ⟨xn, xt, xs⟩ := x
          simp only at hx
          subst hx
          simp only at c0 c1 c2
          go_wp2_with fail
          go_roundw
          case rel =>
            refine ⟨k + 1, by go_num, by rw [EN.out]; omega, by rw [HST.out]; simp, ?_, ?_, ?_, ?_, ?_, ?_⟩
            · exact bl_alloc (bl_set (p := ⟨w1.heap.size, 2, none⟩) (bl_set (p := ⟨w1.heap.size, 1, none⟩) (bl_set (p := ⟨w1.heap.size, 0, none⟩) HBL.out (Nat.le_refl _) _) (Nat.le_refl _) _) (Nat.le_refl _) _) _
            · simp; omega
            · intro j
              refine (Below.frozen (bl_alloc (Below.refl _ _) _) (p := ⟨w1.heap.size, j, none⟩) (by simpa using hsz)).trans ?_
              simp [hfz]
            · rw [HST.out]; simp [go_sem, hsz, d0]
            · rw [HST.out]; simp [go_sem, hsz, d1]
            · rw [HST.out]; simp [go_sem, hsz, d2]
          case measure => simp [intOf]; omega
        · have HX := Lib.hid hx
          go_wp2_with fail
          go_roundw
          case rel =>
            refine ⟨k + 1, by go_num, by rw [EN.out]; omega, by rw [HST.out, if_neg HX.out], bl_alloc HBL.out _, by simp; omega, ?_, ?_, ?_, ?_⟩
            · exact hfz2 _
            · rw [HST.out, if_neg HX.out]; exact ((bl_alloc (Below.refl _ _) _ : Below wr.heap.size wr _).cell (p := ⟨w1.heap.size, 0, none⟩) hsz).trans d0
            · rw [HST.out, if_neg HX.out]; exact ((bl_alloc (Below.refl _ _) _ : Below wr.heap.size wr _).cell (p := ⟨w1.heap.size, 1, none⟩) hsz).trans d1
            · rw [HST.out, if_neg HX.out]; exact ((bl_alloc (Below.refl _ _) _ : Below wr.heap.size wr _).cell (p := ⟨w1.heap.size, 2, none⟩) hsz).trans d2
          case measure => simp [intOf]; omega
      · obtain rfl : k = n := by omega
        have HBL := Lib.hid hbl
        have hwant : ∀ i, FoundIn .no no acc i → wantTo acc no k = (ofV acc no i, ofB acc no i) := fun i hi => by rw [← EN.out]; exact want_found HRIS.out hi
        have HW := Lib.hid hwant
        clear hwant hfz hbl
        go_wp2_with fail
        refine (C1.out wr HBL.out).mono ?_
        rintro e w2 ⟨i, hf, rfl, hg2⟩
        have hw := HW.out i hf
        rw [hw] at d0 d1 d2 ⊢
        simp only at d0 d1 d2 ⊢
        obtain ⟨x, ex⟩ : ∃ x, ofV acc no i = x := ⟨_, rfl⟩
        obtain ⟨xb, exb⟩ : ∃ x, ofB acc no i = x := ⟨_, rfl⟩
        rw [ex] at d0 d1 d2 ⊢
        rw [exb]
        obtain ⟨p, rfl⟩ := regr hg2
        have hwr : w1.heap.size < wr.heap.size + p.os.size := by omega
        clear hw hf hg2 ex exb
        have GA : Hid (Grows w1 (reg wr p)) := Lib.hid (grows_trans _ _ _ HBL.out (below_reg _ _))
        go_wp2_with fail
        refine (C2.out _ (grows_trans w1 wr _ HBL.out (by show Below wr.heap.size wr _; (repeat (first | with_reducible exact Below.refl _ _ | with_reducible refine bl_alloc ?_ _ | ((with_reducible refine bl_set ?_ ?_ _); rotate_left; (first | exact Nat.le_refl _ | exact Nat.le_succ_of_le (Nat.le_refl _) | (simp only []; omega))) | with_reducible refine bl_drewN ?_ _ | with_reducible refine bl_drew ?_ | with_reducible refine bl_reg ?_ _))))).mono ?_
        rintro e w3 ⟨i2, hf2, rfl, hg3⟩
        have hat2 := atN_found HRIS.out hf2
        have hi2 : i2 ≤ k := by have := (found_all HRIS.out hf2).1; rwa [EN.out] at this
        obtain ⟨p2, rfl⟩ := regr hg3
        have HAT2 := Lib.hid hat2
        clear hg3 hf2 hat2
        go_wp2_with fail
        refine (C3.out _ (grows_trans w1 wr _ HBL.out (by show Below wr.heap.size wr _; (repeat (first | with_reducible exact Below.refl _ _ | with_reducible refine bl_alloc ?_ _ | ((with_reducible refine bl_set ?_ ?_ _); rotate_left; (first | exact Nat.le_refl _ | exact Nat.le_succ_of_le (Nat.le_refl _) | (simp only []; omega))) | with_reducible refine bl_drewN ?_ _ | with_reducible refine bl_drew ?_ | with_reducible refine bl_reg ?_ _))))).mono ?_
        rintro e w4 ⟨rfl, rfl⟩
        rw [HAT2.out]
        have hgw : g < wr.heap.size := Nat.lt_of_lt_of_le hg (HBL.out : Below w1.heap.size w1 wr).size
        have q1 : g < wr.heap.size + p.os.size := by omega
        have q2 : g < wr.heap.size + p.os.size + 1 := by omega
        have q3 : g < wr.heap.size + p.os.size + 1 + p2.os.size := by omega
        have q4 : g < wr.heap.size + p.os.size + 1 + p2.os.size + 1 := by omega
        by_cases h0 : i2 = 0
        · subst h0
          have ha : aheadV acc 0 = ⟨0, 0, 0⟩ := rfl
          rw [ha]
          have hz : ((0 : Nat) : Int) - 1 = -1 := rfl
          rw [hz]
          clear ha hz
          go_wp2_with fail
          refine wp_region_reg (by kernel_rfl) (by kernel_rfl) ?_
          repeat (first | go_big_quiet_step ((first | (go_at_call 18; exact class_reg (viewWorks_any _)))) | quiet_step ((first | (go_at_call 18; exact class_reg (viewWorks_any _)))))
          refine wpQuiet_nil ?_
          intro _ hcw1
          obtain ⟨pq, hcw2⟩ := hcw1
          subst hcw2
          go_wp2_with fail
          go_ret
          exact ⟨rfl, HB1.out.trans (Below.mono (grows_trans w1 wr _ HBL.out (by show Below wr.heap.size wr _; (repeat (first | with_reducible exact Below.refl _ _ | with_reducible refine bl_alloc ?_ _ | ((with_reducible refine bl_set ?_ ?_ _); rotate_left; (first | exact Nat.le_refl _ | exact Nat.le_succ_of_le (Nat.le_refl _) | (simp only []; omega))) | with_reducible refine bl_drewN ?_ _ | with_reducible refine bl_drew ?_ | with_reducible refine bl_reg ?_ _)))) HB1.out.size)⟩
        · obtain ⟨m, rfl⟩ : ∃ m, i2 = m + 1 := ⟨i2 - 1, by omega⟩
          obtain ⟨c0, c1, c2⟩ := vat_cells (HAT.out.grows HBL.out hg) m (by rw [EN.out]; omega)
          have ha : aheadV acc (m + 1) = acc[m]'(by rw [EN.out]; omega) := by
            unfold aheadV
            rw [if_neg (by omega), Nat.add_sub_cancel, getD_at (by rw [EN.out]; omega)]
          rw [ha]
          have hz : ((m + 1 : Nat) : Int) - 1 = (m : Int) := by omega
          rw [hz]
          obtain ⟨y, ey⟩ : ∃ y, acc[m]'(by rw [EN.out]; omega) = y := ⟨_, rfl⟩
          rw [ey] at c0 c1 c2 ⊢
          have j1 : (0 : Int) ≤ (m : Int) := by omega
          have j2 : (m : Int) < (k : Int) := by omega
          have j3 : decide ((m : Int) < 0) = false := by simp
          clear ha hz ey h0
          go_wp2_with fail
          refine wp_region_reg (by kernel_rfl) (by kernel_rfl) ?_
          repeat (first | go_big_quiet_step ((first | (go_at_call 18; exact class_reg (viewWorks_any _)))) | quiet_step ((first | (go_at_call 18; exact class_reg (viewWorks_any _)))))
          refine wpQuiet_nil ?_
          intro _ hcw1
          obtain ⟨pq, hcw2⟩ := hcw1
          subst hcw2
          go_wp2_with fail
          go_ret
          exact ⟨rfl, HB1.out.trans (Below.mono (grows_trans w1 wr _ HBL.out (by show Below wr.heap.size wr _; (repeat (first | with_reducible exact Below.refl _ _ | with_reducible refine bl_alloc ?_ _ | ((with_reducible refine bl_set ?_ ?_ _); rotate_left; (first | exact Nat.le_refl _ | exact Nat.le_succ_of_le (Nat.le_refl _) | (simp only []; omega))) | with_reducible refine bl_drewN ?_ _ | with_reducible refine bl_drew ?_ | with_reducible refine bl_reg ?_ _)))) HB1.out.size)⟩
end Go.Proofs.Ytkihhdoejpjbbaa
