/- Quotients, rounded down, and what is left. -/
import Derived.Test.YtihfcaconbcdjaaTrimE
namespace Go.Proofs.Ytihfcaconbcdjaa
open Go.RowKit Go.Sort
set_option maxHeartbeats 1000000
set_option maxRecDepth 100000

theorem tdiv_floor (x m : Int) (hm : 0 < m) : x.tdiv m = if x % m ≠ 0 ∧ x < 0 then x / m + 1 else x / m := by
  have h1 := Int.mul_ediv_add_emod x m
  have h2 := Int.emod_nonneg x (by omega : m ≠ 0)
  have h3 := Int.emod_lt_of_pos x hm
  by_cases hx : x < 0
  · rw [Int.tdiv_eq_ediv]
    by_cases h0 : x % m = 0
    · have : m ∣ x := Int.dvd_of_emod_eq_zero h0
      simp [this, h0]
    · have : ¬ m ∣ x := fun h => h0 (Int.emod_eq_zero_of_dvd h)
      simp [this, h0, hx, Int.sign_eq_one_of_pos hm, show ¬ 0 ≤ x by omega]
  · rw [if_neg (by omega), Int.tdiv_eq_ediv_of_nonneg (by omega)]
theorem tmod_floor (x m : Int) (hm : 0 < m) : x.tmod m = if x % m ≠ 0 ∧ x < 0 then x % m - m else x % m := by
  have h1 := Int.mul_ediv_add_emod x m
  have h2 := Int.mul_tdiv_add_tmod x m
  rw [tdiv_floor x m hm] at h2
  split at h2
  · rename_i h
    rw [if_pos h]
    rw [Int.mul_add, Int.mul_one] at h2
    omega
  · rename_i h
    rw [if_neg h]
    omega
theorem floor_rng (x m : Int) (hm : 0 < m) (hx : -9223372036854775808 ≤ x ∧ x ≤ 9223372036854775807) : -9223372036854775808 ≤ x / m ∧ x / m ≤ 9223372036854775807 := by
  constructor
  · rw [Int.le_ediv_iff_mul_le hm]
    have : -9223372036854775808 * m ≤ -9223372036854775808 * 1 := by omega
    omega
  · by_cases h : 0 ≤ x
    · exact Int.le_trans (Int.ediv_le_self _ h) hx.2
    · have := Int.ediv_neg_of_neg_of_pos (a := x) (b := m) (by omega) hm
      omega
theorem parts_any (x m : Int) (w : World) (hx : -9223372036854775808 ≤ x ∧ x ≤ 9223372036854775807) (hm : 0 < m ∧ m ≤ 1000000) :
    Calls Try.prog 43 #[.int .i64 x, .int .i64 m] w (RetV w (.tuple #[.int .i64 (x / m), .int .i64 (x % m)])) := by
  have h0 := Int.emod_nonneg x (by omega : m ≠ 0)
  have h3 := Int.emod_lt_of_pos x hm.1
  have hfr := floor_rng x m hm.1 hx
  have e1 := tdiv_floor x m hm.1
  have e2 := tmod_floor x m hm.1
  obtain ⟨q, eq⟩ : ∃ q, x / m = q := ⟨_, rfl⟩
  obtain ⟨r, er⟩ : ∃ r, x % m = r := ⟨_, rfl⟩
  rw [er] at h0 h3 e1 e2
  rw [eq] at hfr e1
  rw [eq, er]
  have hmz : ¬ m = 0 := by omega
  by_cases hc : r ≠ 0 ∧ x < 0
  · rw [if_pos hc] at e1 e2
    have hq1 : q < 0 := by rw [← eq]; exact Int.ediv_neg_of_neg_of_pos hc.2 hm.1
    have w1 : wrap64 (q + 1) = q + 1 := by unfold wrap64; omega
    have w2 : wrap64 (r - m) = r - m := by unfold wrap64; omega
    clear eq er
    obtain ⟨q1, eq1⟩ : ∃ q1, q + 1 = q1 := ⟨_, rfl⟩
    obtain ⟨r1, er1⟩ : ∃ r1, r - m = r1 := ⟨_, rfl⟩
    rw [eq1] at e1 w1
    rw [er1] at e2 w2
    have hr1 : r1 < 0 := by omega
    have w3 : wrap64 (q1 - 1) = q := by unfold wrap64; omega
    have w4 : wrap64 (r1 + m) = r := by unfold wrap64; omega
    go_enter Try.func43, Try.ntmps43
    go_wp2_with fail
    refine wp_region_quiet_lit (by kernel_rfl) (by kernel_rfl) ?_
    repeat (first | go_big_quiet_step (fail) | quiet_step (fail))
    refine wpQuiet_nil ?_
    intro _ hcw1
    obtain ⟨nq, hcw2⟩ := hcw1
    subst hcw2
    go_wp2_with fail
    go_ret2
    rw [show q1 - 1 = q by omega, show r1 + m = r by omega]
    exact ⟨rfl, by (repeat (first | with_reducible exact Below.refl _ _ | with_reducible refine bl_alloc ?_ _ | ((with_reducible refine bl_set ?_ ?_ _); rotate_left; (first | exact Nat.le_refl _ | exact Nat.le_succ_of_le (Nat.le_refl _) | (simp only []; omega))) | with_reducible refine bl_drewN ?_ _ | with_reducible refine bl_drew ?_ | with_reducible refine bl_reg ?_ _))⟩
  · rw [if_neg hc] at e1 e2
    clear eq er
    have hr1 : ¬ r < 0 := by omega
    go_enter Try.func43, Try.ntmps43
    go_wp2_with fail
    refine wp_region_quiet_lit (by kernel_rfl) (by kernel_rfl) ?_
    repeat (first | go_big_quiet_step (fail) | quiet_step (fail))
    refine wpQuiet_nil ?_
    intro _ hcw1
    obtain ⟨nq, hcw2⟩ := hcw1
    subst hcw2
    go_wp2_with fail
    go_ret2
    exact ⟨rfl, by (repeat (first | with_reducible exact Below.refl _ _ | with_reducible refine bl_alloc ?_ _ | ((with_reducible refine bl_set ?_ ?_ _); rotate_left; (first | exact Nat.le_refl _ | exact Nat.le_succ_of_le (Nat.le_refl _) | (simp only []; omega))) | with_reducible refine bl_drewN ?_ _ | with_reducible refine bl_drew ?_ | with_reducible refine bl_reg ?_ _))⟩
theorem div_any (x m : Int) (w : World) (hx : -9223372036854775808 ≤ x ∧ x ≤ 9223372036854775807) (hm : 0 < m ∧ m ≤ 4294967296) :
    Calls Try.prog 44 #[.int .i64 x, .int .i64 m] w (fun e w' => e = .returned (.tuple #[.int .i64 (x / m), .bool true]) ∧ w = w') := by
  have h0 := Int.emod_nonneg x (by omega : m ≠ 0)
  have h3 := Int.emod_lt_of_pos x hm.1
  have hfr := floor_rng x m hm.1 hx
  have e1 := tdiv_floor x m hm.1
  have hdm := Int.mul_ediv_add_emod x m
  obtain ⟨q, eq⟩ : ∃ q, x / m = q := ⟨_, rfl⟩
  obtain ⟨r, er⟩ : ∃ r, x % m = r := ⟨_, rfl⟩
  rw [er] at h0 h3 e1 hdm
  rw [eq] at hfr e1 hdm
  rw [eq]
  have hmz : ¬ m = 0 := by omega
  have hm1 : ¬ m = -1 := by omega
  have hmn : ¬ m < 0 := by omega
  have hb0 : (m == 0) = false := by simp; omega
  have hb1 : (m == -1) = false := by simp; omega
  by_cases hc : r ≠ 0 ∧ x < 0
  · rw [if_pos hc] at e1
    have hq1 : q < 0 := by rw [← eq]; exact Int.ediv_neg_of_neg_of_pos hc.2 hm.1
    have w1 : wrap64 (q + 1) = q + 1 := by unfold wrap64; omega
    obtain ⟨q1, eq1⟩ : ∃ q1, q + 1 = q1 := ⟨_, rfl⟩
    rw [eq1] at e1 w1
    have hq : (q1 * m) = x + (m - r) := by rw [← eq1, Int.add_mul, Int.one_mul, Int.mul_comm]; omega
    have w2 : wrap64 (q1 * m) = q1 * m := by rw [hq]; unfold wrap64; omega
    have hne : ¬ q1 * m = x := by rw [hq]; omega
    have w3 : wrap64 (q1 - 1) = q := by unfold wrap64; omega
    have hxn : x < 0 := hc.2
    clear eq er hq hdm
    by_cases hL : x = -9223372036854775808
    · subst hL
      rw [Int.neg_tdiv] at e1
      go_enter Try.func44, Try.ntmps44
      go_wp2_with fail
      go_ret2
      try rw [show q1 - 1 = q by omega]
      exact ⟨rfl, rfl⟩
    · go_enter Try.func44, Try.ntmps44
      go_wp2_with fail
      go_ret2
      try rw [show q1 - 1 = q by omega]
      exact ⟨rfl, rfl⟩
  · rw [if_neg hc] at e1
    have hq : q * m = x - r := by rw [Int.mul_comm]; omega
    have w2 : wrap64 (q * m) = q * m := by
      rw [hq]
      by_cases hr : r = 0
      · unfold wrap64; omega
      · unfold wrap64; omega
    by_cases hr : r = 0
    · have hne : q * m = x := by rw [hq]; omega
      have w2x : wrap64 x = x := by rw [← hne]; exact w2
      clear eq er hq hdm
      by_cases hL : x = -9223372036854775808
      · subst hL
        rw [Int.neg_tdiv] at e1
        go_enter Try.func44, Try.ntmps44
        go_wp2_with fail
        go_ret2
        exact ⟨rfl, rfl⟩
      · go_enter Try.func44, Try.ntmps44
        go_wp2_with fail
        go_ret2
        exact ⟨rfl, rfl⟩
    · have hne : ¬ q * m = x := by rw [hq]; omega
      have hxn : ¬ x < 0 := by omega
      clear eq er hq hdm
      by_cases hL : x = -9223372036854775808
      · exact absurd hL (by omega)
      · go_enter Try.func44, Try.ntmps44
        go_wp2_with fail
        go_ret2
        exact ⟨rfl, rfl⟩
end Go.Proofs.Ytihfcaconbcdjaa
