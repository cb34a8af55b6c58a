/- The walks of ViewInstalls and ViewSpans. -/
import Derived.Test.YtkihhdoejpjbbaaViewH
namespace Go.Proofs.Ytkihhdoejpjbbaa
open Go.RowKit Go.Sort
set_option maxHeartbeats 2000000
set_option maxRecDepth 100000

/-- Two slices that hold the same views are the same. -/
theorem all_same (va vb : Value) (l : List VW) (w : World) (ha : VHas w va l) (hb : VHas w vb l) (hm : l.length ≤ 1000000) :
    Calls Try.prog 16 #[va, vb] w (fun e w' => e = .returned (.bool true) ∧ ∃ m, w' = w.drewN m) := by
  by_cases h0 : l = []
  · subst h0
    obtain ⟨a1, k1, rfl⟩ := ha.len
    obtain ⟨a2, k2, rfl⟩ := hb.len
    go_enter Try.func16, Try.ntmps16
    go_wp2_with fail
    go_loopw [13] (fun i wr => i = .int .i64 0 ∧ wr = w) (fun _ _ => 0)
    case atStart => exact ⟨rfl, rfl⟩
    case round =>
      obtain ⟨rfl, rfl⟩ := hrel
      go_wp2_with fail
      go_ret
      exact ⟨rfl, 0, rfl⟩
  · rcases ha with ⟨h1, -⟩ | ⟨g1, o1, cap1, rfl, hg1, hc1⟩
    · exact absurd h1 h0
    rcases hb with ⟨h1, -⟩ | ⟨g2, o2, cap2, rfl, hg2, hc2⟩
    · exact absurd h1 h0
    obtain ⟨n, en⟩ : ∃ n, l.length = n := ⟨_, rfl⟩
    rw [en] at hm ⊢
    have H1 := Lib.hid hc1
    have H2 := Lib.hid hc2
    have EN := Lib.hid en
    clear hc1 hc2 en h0
    go_enter Try.func16, Try.ntmps16
    go_wp2_with fail
    go_loopw [13] (fun i wr => ∃ k m : Nat, i = .int .i64 (k : Int) ∧ k ≤ n ∧ wr = w.drewN m) (fun i _ => n - (intOf i).toNat)
    case atStart => exact ⟨0, 0, rfl, Nat.zero_le _, rfl⟩
    case round =>
      obtain ⟨k, m, rfl, hk, rfl⟩ := hrel
      by_cases hlt : k < n
      · have hkl : k < l.length := by rw [EN.out]; exact hlt
        obtain ⟨c0, c1, c2⟩ := vat_cells H1.out k hkl
        obtain ⟨d0, d1, d2⟩ := vat_cells H2.out k hkl
        obtain ⟨x, ex⟩ : ∃ x, l[k] = x := ⟨_, rfl⟩
        rw [ex] at c0 c1 c2 d0 d1 d2
        have i1 : (0 : Int) ≤ (k : Int) := by omega
        have i2 : (k : Int) < (n : Int) := by omega
        clear ex
        go_wp2_with fail
        refine wp_region_quiet_lit (by kernel_rfl) (by kernel_rfl) ?_
        repeat (first | go_big_quiet_step ((fail)) | quiet_step ((fail)))
        refine wpQuiet_nil ?_
        intro _ hcw1
        obtain ⟨nq, hcw2⟩ := hcw1
        subst hcw2
        go_wp2_with fail
        go_roundw
        case rel => exact ⟨k + 1, m + nq, by go_num, by omega, rfl⟩
        case measure => simp [intOf]; omega
      · go_wp2_with fail
        go_ret
        exact ⟨rfl, m, rfl⟩

/-- The slice v holds the spans l. -/
def PHas (w : World) (v : Value) (l : List (Int × Int)) : Prop := (l = [] ∧ ∃ a cap, v = .slice a 0 cap) ∨ ∃ g o cap, v = .slice (some ⟨g, o, none⟩) l.length cap ∧ g < w.heap.size ∧ RAt p2 2 w g o l
theorem PHas.grows {w w' : World} {v : Value} {l : List (Int × Int)} (h : PHas w v l) (hg : Grows w w') : PHas w' v l := by
  rcases h with h | ⟨g, o, cap, h1, h2, h3⟩
  · exact .inl h
  · exact .inr ⟨g, o, cap, h1, Nat.lt_of_lt_of_le h2 hg.size, h3.grows hg h2⟩
theorem pown_has {w : World} {base : Nat} {v : Value} {l : List (Int × Int)} (h : POwn w base v l) : PHas w v l := by
  rcases own_rows (f := p2) (k := 2) (fun _ => rfl) rfl h with ⟨rfl, rfl⟩ | ⟨g, cap, rfl, _, _, hg, hat⟩
  · exact .inl ⟨rfl, none, 0, rfl⟩
  · exact .inr ⟨g, 0, cap, rfl, hg, hat⟩
theorem PHas.len {w : World} {v : Value} {l : List (Int × Int)} (h : PHas w v l) : ∃ a cap, v = .slice a l.length cap := by
  rcases h with ⟨rfl, a, cap, rfl⟩ | ⟨g, o, cap, rfl, _, _⟩
  · exact ⟨a, cap, rfl⟩
  · exact ⟨_, cap, rfl⟩
theorem pat_cells {w : World} {g o : Nat} {l : List (Int × Int)} (h : RAt p2 2 w g o l) (i : Nat) (hi : i < l.length) : w.cell? ⟨g, o + i * 2, none⟩ = some (.int .i64 l[i].1) ∧ w.cell? ⟨g, o + i * 2 + 1, none⟩ = some (.int .i64 l[i].2) :=
  ⟨h i hi 0 (by omega), h i hi 1 (by omega)⟩
theorem spans_same (va vb : Value) (l : List (Int × Int)) (w : World) (ha : PHas w va l) (hb : PHas w vb l) (hm : l.length ≤ 1000000) :
    Calls Try.prog 19 #[va, vb] w (fun e w' => e = .returned (.bool true) ∧ ∃ m, w' = w.drewN m) := by
  by_cases h0 : l = []
  · subst h0
    obtain ⟨a1, k1, rfl⟩ := ha.len
    obtain ⟨a2, k2, rfl⟩ := hb.len
    go_enter Try.func19, Try.ntmps19
    go_wp2_with fail
    go_loopw [13] (fun i wr => i = .int .i64 0 ∧ wr = w) (fun _ _ => 0)
    case atStart => exact ⟨rfl, rfl⟩
    case round =>
      obtain ⟨rfl, rfl⟩ := hrel
      go_wp2_with fail
      go_ret
      exact ⟨rfl, 0, rfl⟩
  · rcases ha with ⟨h1, -⟩ | ⟨g1, o1, cap1, rfl, hg1, hc1⟩
    · exact absurd h1 h0
    rcases hb with ⟨h1, -⟩ | ⟨g2, o2, cap2, rfl, hg2, hc2⟩
    · exact absurd h1 h0
    obtain ⟨n, en⟩ : ∃ n, l.length = n := ⟨_, rfl⟩
    rw [en] at hm ⊢
    have H1 := Lib.hid hc1
    have H2 := Lib.hid hc2
    have EN := Lib.hid en
    clear hc1 hc2 en h0
    go_enter Try.func19, Try.ntmps19
    go_wp2_with fail
    go_loopw [13] (fun i wr => ∃ k m : Nat, i = .int .i64 (k : Int) ∧ k ≤ n ∧ wr = w.drewN m) (fun i _ => n - (intOf i).toNat)
    case atStart => exact ⟨0, 0, rfl, Nat.zero_le _, rfl⟩
    case round =>
      obtain ⟨k, m, rfl, hk, rfl⟩ := hrel
      by_cases hlt : k < n
      · have hkl : k < l.length := by rw [EN.out]; exact hlt
        obtain ⟨c0, c1⟩ := pat_cells H1.out k hkl
        obtain ⟨d0, d1⟩ := pat_cells H2.out k hkl
        obtain ⟨x, ex⟩ : ∃ x, l[k] = x := ⟨_, rfl⟩
        rw [ex] at c0 c1 d0 d1
        have i1 : (0 : Int) ≤ (k : Int) := by omega
        have i2 : (k : Int) < (n : Int) := by omega
        clear ex
        go_wp2_with fail
        refine wp_region_quiet_lit (by kernel_rfl) (by kernel_rfl) ?_
        repeat (first | go_big_quiet_step ((fail)) | quiet_step ((fail)))
        refine wpQuiet_nil ?_
        intro _ hcw1
        obtain ⟨nq, hcw2⟩ := hcw1
        subst hcw2
        go_wp2_with fail
        go_roundw
        case rel => exact ⟨k + 1, m + nq, by go_num, by omega, rfl⟩
        case measure => simp [intOf]; omega
      · go_wp2_with fail
        go_ret
        exact ⟨rfl, m, rfl⟩

theorem spansN_length (i : Int) (l : List VW) : (spansN i l).length ≤ l.length := (spFold_inv i l).2

theorem viewSpans_walk (vl : Value) (l : List VW) (i : Int) (w : World) (h : VHas w vl l) (hm : l.length ≤ 9223372036854775807) (hok : AllOk l) :
    Calls Try.prog 4 #[vl, .int .i64 i] w (RetV w (.bool true)) := by
  go_enter Try.func4, Try.ntmps4
  go_wp2_with fail
  refine (made_any vl l w h hm hok).mono ?_
  rintro e w1 ⟨b, v, rv, rfl, hb1, hv1, hr1, hok1, hlen1⟩
  obtain ⟨acc, eacc⟩ : ∃ acc, madeN l = acc := ⟨_, rfl⟩
  rw [eacc] at hv1 hr1 hok1 hlen1
  have HB1 := Lib.hid hb1
  have hlm : acc.length ≤ 1000000 := by omega
  have C1 := Lib.hid (fun W (hg : Grows w1 W) => spans_any W (hv1.grows hg) hlm hok1 i)
  have C2 := Lib.hid (fun W (hg : Grows w1 W) => rspans_any rv acc i W ((vown_has hr1.1).grows hg) hlm hok1)
  have C3 := Lib.hid (fun W (hg : Grows w1 W) => came_any W (hv1.grows hg) hlm hok1)
  have C4 := Lib.hid (fun W (hg : Grows w1 W) => rcame_any rv acc W ((vown_has hr1.1).grows hg) hlm hok1)
  have C5 := Lib.hid (fun W (hg : Grows w1 W) => went_any W (hv1.grows hg) hlm hok1)
  have C6 := Lib.hid (fun W (hg : Grows w1 W) => rwent_any rv acc W ((vown_has hr1.1).grows hg) hlm hok1)
  have hsl := spansN_length i acc
  obtain ⟨sp, esp⟩ : ∃ sp, spansN i acc = sp := ⟨_, rfl⟩
  obtain ⟨cm, ecm⟩ : ∃ q, cameN acc = q := ⟨_, rfl⟩
  obtain ⟨wn, ewn⟩ : ∃ q, wentN acc = q := ⟨_, rfl⟩
  rw [esp] at C1 C2 hsl
  rw [ecm] at C3 C4
  rw [ewn] at C5 C6
  clear hb1 hv1 hr1 hok1 eacc esp ecm ewn h
  go_wp2_with fail
  refine (C1.out w1 (Below.refl _ _)).mono ?_
  rintro e w2 ⟨v2, rfl, hg2, ho2⟩
  have G2 := Lib.hid hg2
  have P2 := Lib.hid (pown_has ho2)
  clear hg2 ho2
  go_wp2_with fail
  refine (C2.out w2 G2.out).mono ?_
  rintro e w3 ⟨v3, rfl, hg3, ho3⟩
  have G3 := Lib.hid (grows_trans _ _ _ G2.out hg3)
  have P3 := Lib.hid (pown_has ho3)
  have P2b := Lib.hid (P2.out.grows hg3)
  clear hg3 ho3 P2 G2
  go_wp2_with fail
  refine (spans_same v2 v3 sp w3 P2b.out P3.out (by omega)).mono ?_
  rintro e w4 ⟨rfl, m, rfl⟩
  have G4 := Lib.hid (bl_drewN G3.out m)
  clear G3 P2b P3
  go_wp2_with fail
  refine (C3.out _ G4.out).mono ?_
  rintro e w5 ⟨rfl, hg5⟩
  have G5 := Lib.hid (grows_trans _ _ _ G4.out hg5)
  clear hg5 G4
  go_wp2_with fail
  refine (C4.out _ G5.out).mono ?_
  rintro e w6 ⟨rfl, hg6⟩
  have G6 := Lib.hid (grows_trans _ _ _ G5.out hg6)
  clear hg6 G5
  go_wp2_with fail
  refine (C5.out _ G6.out).mono ?_
  rintro e w7 ⟨rfl, hg7⟩
  have G7 := Lib.hid (grows_trans _ _ _ G6.out hg7)
  clear hg7 G6
  go_wp2_with fail
  refine (C6.out _ G7.out).mono ?_
  rintro e w8 ⟨rfl, hg8⟩
  have G8 := Lib.hid (grows_trans _ _ _ G7.out hg8)
  clear hg8 G7
  go_wp2_with (go_at_call 18; refine (viewWorks_any _).mono ?_; rintro e w9 ⟨rfl, hb9⟩)
  go_ret
  exact ⟨rfl, HB1.out.trans ((grows_trans _ _ _ G8.out hb9).mono HB1.out.size)⟩

theorem viewInstalls_walk (vl : Value) (l : List VW) (w : World) (h : VHas w vl l) (hm : l.length ≤ 9223372036854775807) (hok : AllOk l) :
    Calls Try.prog 3 #[vl] w (RetV w (.bool true)) := by
  go_enter Try.func3, Try.ntmps3
  go_wp2_with fail
  refine (made_any vl l w h hm hok).mono ?_
  rintro e w1 ⟨b, v, rv, rfl, hb1, hv1, hr1, hok1, hlen1⟩
  obtain ⟨acc, eacc⟩ : ∃ acc, madeN l = acc := ⟨_, rfl⟩
  rw [eacc] at hv1 hr1 hok1 hlen1
  have HB1 := Lib.hid hb1
  have hlm : acc.length ≤ 1000000 := by omega
  have C1 := Lib.hid (last_any w1 hv1 hlm)
  have C2 := Lib.hid (fun W (hg : Grows w1 W) => list_any W (hv1.grows hg) hlm)
  have hrh := vown_has hr1.1
  have HRH := Lib.hid hrh
  have C3 := Lib.hid (fun va W (hg : Grows w1 W) (ha : VHas W va acc) => all_same va rv acc W ha (HRH.out.grows hg) hlm)
  clear hb1 hv1 hok1 eacc h
  by_cases h0 : acc = []
  · subst h0
    obtain rfl := hr1.2 rfl
    have e1 : lastV [] = ⟨0, 0, 0⟩ := rfl
    rw [e1] at C1
    clear hr1 hrh HRH
    go_wp2_with fail
    refine (C1.out).mono ?_
    rintro e w2 ⟨rfl, hb2⟩
    obtain ⟨p, rfl⟩ := regr hb2
    clear hb2
    go_wp2_with fail
    refine wp_region_reg (by kernel_rfl) (by kernel_rfl) ?_
    repeat (first | go_big_quiet_step ((fail)) | quiet_step ((fail)))
    refine wpQuiet_nil ?_
    intro _ hcw1
    obtain ⟨pq, hcw2⟩ := hcw1
    subst hcw2
    go_wp2_with fail
    refine (C2.out _ (by show Below w1.heap.size w1 _; (repeat (first | with_reducible exact Below.refl _ _ | with_reducible refine bl_alloc ?_ _ | ((with_reducible refine bl_set ?_ ?_ _); rotate_left; (first | exact Nat.le_refl _ | exact Nat.le_succ_of_le (Nat.le_refl _) | (simp only []; omega))) | with_reducible refine bl_drewN ?_ _ | with_reducible refine bl_drew ?_ | with_reducible refine bl_reg ?_ _)))).mono ?_
    rintro e w3 ⟨v3, rfl, hg3, ho3⟩
    have G3 := Lib.hid (grows_trans w1 _ _ (by show Below w1.heap.size w1 _; (repeat (first | with_reducible exact Below.refl _ _ | with_reducible refine bl_alloc ?_ _ | ((with_reducible refine bl_set ?_ ?_ _); rotate_left; (first | exact Nat.le_refl _ | exact Nat.le_succ_of_le (Nat.le_refl _) | (simp only []; omega))) | with_reducible refine bl_drewN ?_ _ | with_reducible refine bl_drew ?_ | with_reducible refine bl_reg ?_ _))) hg3)
    have P3 := Lib.hid (vown_has ho3)
    clear hg3 ho3
    go_wp2_with fail
    refine (C3.out v3 w3 G3.out P3.out).mono ?_
    rintro e w4 ⟨rfl, m, rfl⟩
    have G4 := Lib.hid (bl_drewN G3.out m)
    clear G3 P3
    go_wp2_with (go_at_call 18; refine (viewWorks_any _).mono ?_; rintro e w9 ⟨rfl, hb9⟩)
    go_ret
    exact ⟨rfl, HB1.out.trans ((grows_trans _ _ _ G4.out hb9).mono HB1.out.size)⟩
  · rcases own_rows (f := vv) (k := 3) (fun _ => rfl) rfl hr1.1 with ⟨h1, -⟩ | ⟨g, cap, rfl, hcap, -, hg, hat⟩
    · exact absurd h1 h0
    have hp : 0 < acc.length := List.length_pos_iff.2 h0
    have he : (!acc.isEmpty) = true := by simp [h0]
    obtain ⟨c0, c1, c2⟩ := vat_cells hat (acc.length - 1) (by omega)
    rw [last_get hp, he] at C1
    obtain ⟨x, ex⟩ : ∃ x, acc[acc.length - 1] = x := ⟨_, rfl⟩
    rw [ex] at C1 c0 c1 c2
    obtain ⟨mm, em⟩ : ∃ m, acc.length = m + 1 := ⟨acc.length - 1, by omega⟩
    rw [em] at c0 c1 c2 C3 ⊢
    simp only [Nat.zero_add, Nat.add_sub_cancel] at c0 c1 c2
    have j0 : (mm : Int) ≤ 1000000 := by omega
    have j1 : ((mm : Int) + 1) - 1 = (mm : Int) := by omega
    have j2 : (0 : Int) ≤ (mm : Int) := by omega
    have j3 : (mm : Int) < (mm : Int) + 1 := by omega
    have j4 : wrap64 (mm : Int) = (mm : Int) := by rw [← wrapEq]; exact IntWalk.i64_in _ (by omega)
    have j5 : decide ((0 : Int) < (mm : Int) + 1) = true := by simp
    have j6 : (0 : Int) < (mm : Int) + 1 := by omega
    clear hr1 hrh HRH hat ex em he hp hcap hlm hlen1
    go_wp2_with fail
    refine (C1.out).mono ?_
    rintro e w2 ⟨rfl, hb2⟩
    obtain ⟨p, rfl⟩ := regr hb2
    clear hb2
    go_wp2_with fail
    have q1 : g < w1.heap.size + p.os.size := by omega
    have q2 : g < w1.heap.size + p.os.size + 1 := by omega
    refine wp_region_reg (by kernel_rfl) (by kernel_rfl) ?_
    repeat (first | go_big_quiet_step ((fail)) | quiet_step ((fail)))
    refine wpQuiet_nil ?_
    intro _ hcw1
    obtain ⟨pq, hcw2⟩ := hcw1
    subst hcw2
    go_wp2_with fail
    refine (C2.out _ (by show Below w1.heap.size w1 _; (repeat (first | with_reducible exact Below.refl _ _ | with_reducible refine bl_alloc ?_ _ | ((with_reducible refine bl_set ?_ ?_ _); rotate_left; (first | exact Nat.le_refl _ | exact Nat.le_succ_of_le (Nat.le_refl _) | (simp only []; omega))) | with_reducible refine bl_drewN ?_ _ | with_reducible refine bl_drew ?_ | with_reducible refine bl_reg ?_ _)))).mono ?_
    rintro e w3 ⟨v3, rfl, hg3, ho3⟩
    have G3 := Lib.hid (grows_trans w1 _ _ (by show Below w1.heap.size w1 _; (repeat (first | with_reducible exact Below.refl _ _ | with_reducible refine bl_alloc ?_ _ | ((with_reducible refine bl_set ?_ ?_ _); rotate_left; (first | exact Nat.le_refl _ | exact Nat.le_succ_of_le (Nat.le_refl _) | (simp only []; omega))) | with_reducible refine bl_drewN ?_ _ | with_reducible refine bl_drew ?_ | with_reducible refine bl_reg ?_ _))) hg3)
    have P3 := Lib.hid (vown_has ho3)
    clear hg3 ho3
    go_wp2_with fail
    refine (C3.out v3 w3 G3.out P3.out).mono ?_
    rintro e w4 ⟨rfl, m, rfl⟩
    have G4 := Lib.hid (bl_drewN G3.out m)
    clear G3 P3
    go_wp2_with (go_at_call 18; refine (viewWorks_any _).mono ?_; rintro e w9 ⟨rfl, hb9⟩)
    go_ret
    exact ⟨rfl, HB1.out.trans ((grows_trans _ _ _ G4.out hb9).mono HB1.out.size)⟩
end Go.Proofs.Ytkihhdoejpjbbaa
