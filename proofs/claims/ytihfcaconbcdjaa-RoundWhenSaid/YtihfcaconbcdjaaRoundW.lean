/- When a round begins, and the document's answers to that. -/
import Derived.Test.YtihfcaconbcdjaaRoundD
import Derived.Test.YtihfcaconbcdjaaMul64
namespace Go.Proofs.Ytihfcaconbcdjaa
open Go.RowKit Go.Sort
set_option maxHeartbeats 1000000
set_option maxRecDepth 100000

/-- When a round begins, if it does. -/
def whenB (no e : Int) : Bool := decide (0 ≤ no ∧ 0 ≤ e ∧ no * e ≤ 1152921504606846976)
def whenI (no e : Int) : Int := if whenB no e then no * e else 0
/-- What a When gives back. -/
def WhenAt (no e : Int) (w : World) (x : Ending) (w' : World) : Prop := x = .returned (.tuple #[.int .i64 (whenI no e), .bool (whenB no e)]) ∧ w = w'
theorem when_no {no e : Int} (h : ¬ (0 ≤ no ∧ 0 ≤ e ∧ no * e ≤ 1152921504606846976)) (w : World) : WhenAt no e w (.returned (.tuple #[.int .i64 0, .bool false])) w := by
  have hb : whenB no e = false := decide_eq_false h
  unfold WhenAt whenI
  rw [hb]
  exact ⟨rfl, rfl⟩
theorem when_yes {no e p : Int} (h : 0 ≤ no ∧ 0 ≤ e ∧ no * e ≤ 1152921504606846976) (hp : p = no * e) (w : World) : WhenAt no e w (.returned (.tuple #[.int .i64 p, .bool true])) w := by
  have hb : whenB no e = true := decide_eq_true h
  unfold WhenAt whenI
  rw [hb, hp]
  exact ⟨rfl, rfl⟩

theorem when_parts {n m H L : Nat} (hH : n * m / 18446744073709551616 = H) (hL : n * m % 18446744073709551616 = L) : n * m = 18446744073709551616 * H + L ∧ L < 18446744073709551616 := by
  have h1 := Nat.div_add_mod (n * m) 18446744073709551616
  have h2 := Nat.mod_lt (n * m) (by decide : 0 < 18446744073709551616)
  omega
theorem when_any (no e : Int) (hn : -9223372036854775808 ≤ no ∧ no ≤ 9223372036854775807) (he : -9223372036854775808 ≤ e ∧ e ≤ 9223372036854775807) (w : World) :
    Calls Try.prog 37 #[.int .i64 no, .int .i64 e] w (WhenAt no e w) := by
  by_cases h1 : no < 0
  · have HR := Lib.hid (when_no (no := no) (e := e) (by omega) w)
    clear hn he
    go_enter Try.func37, Try.ntmps37
    go_wp2
    go_ret2
    exact HR.out
  · by_cases h2 : e < 0
    · have HR := Lib.hid (when_no (no := no) (e := e) (by omega) w)
      clear hn he
      go_enter Try.func37, Try.ntmps37
      go_wp2
      go_ret2
      exact HR.out
    · obtain ⟨n, rfl⟩ := Int.eq_ofNat_of_zero_le (by omega : 0 ≤ no)
      obtain ⟨m, rfl⟩ := Int.eq_ofNat_of_zero_le (by omega : 0 ≤ e)
      have hm := fun W => Try.bits_Mul64 n m (by omega) (by omega) W
      have hw1 : IntKind.u64.wrap (n : Int) = (n : Int) := by rw [IntKind.wrap_u64]; omega
      have hw2 : IntKind.u64.wrap (m : Int) = (m : Int) := by rw [IntKind.wrap_u64]; omega
      obtain ⟨H, eH⟩ : ∃ H, n * m / 18446744073709551616 = H := ⟨_, rfl⟩
      obtain ⟨L, eL⟩ : ∃ L, n * m % 18446744073709551616 = L := ⟨_, rfl⟩
      obtain ⟨hp, hL⟩ := when_parts eH eL
      rw [eH, eL] at hm
      have hpi : (n : Int) * (m : Int) = 18446744073709551616 * (H : Int) + (L : Int) := by omega
      have HM := Lib.hid hm
      clear hm eH eL hn he
      by_cases h3 : H = 0
      · by_cases h4 : L ≤ 1152921504606846976
        · have HR := Lib.hid (when_yes (no := n) (e := m) (p := (L : Int)) (by omega) (by omega) w)
          have d1 : ((H : Int) != 0) = false := by rw [h3]; rfl
          have d2 : decide ((1152921504606846976 : Int) < (L : Int)) = false := decide_eq_false (by omega)
          have d3 : wrap64 (L : Int) = (L : Int) := by unfold wrap64; omega
          have d5 : IntKind.i64.wrap (L : Int) = (L : Int) := by rw [wrapEq]; exact d3
          have d4 : ((H : Int) == 0) = true := by rw [h3]; rfl
          clear hpi hp hL h3 h4 h1 h2
          go_enter Try.func37, Try.ntmps37
          go_wp2_with (first | (go_at_call 48; refine (HM.out _).mono ?_; rintro e w' ⟨rfl, rfl⟩))
          go_ret2
          exact HR.out
        · have HR := Lib.hid (when_no (no := n) (e := m) (by omega) w)
          have d1 : ((H : Int) != 0) = false := by rw [h3]; rfl
          have d2 : decide ((1152921504606846976 : Int) < (L : Int)) = true := decide_eq_true (by omega)
          have d4 : ((H : Int) == 0) = true := by rw [h3]; rfl
          clear hpi hp hL h3 h4 h1 h2
          go_enter Try.func37, Try.ntmps37
          go_wp2_with (first | (go_at_call 48; refine (HM.out _).mono ?_; rintro e w' ⟨rfl, rfl⟩))
          go_ret2
          exact HR.out
      · have HR := Lib.hid (when_no (no := n) (e := m) (by omega) w)
        have d1 : ((H : Int) != 0) = true := by simp; omega
        have d4 : ((H : Int) == 0) = false := by simp; omega
        clear hpi hp hL h3 h1 h2
        go_enter Try.func37, Try.ntmps37
        go_wp2_with (first | (go_at_call 48; refine (HM.out _).mono ?_; rintro e w' ⟨rfl, rfl⟩))
        go_ret2
        exact HR.out

theorem due_any (no e : Int) (hn : -9223372036854775808 ≤ no ∧ no ≤ 9223372036854775807) (he : -9223372036854775808 ≤ e ∧ e ≤ 9223372036854775807) (w : World) :
    Calls Try.prog 38 #[.int .i64 no, .int .i64 e] w (WhenAt no e w) := by
  by_cases h1 : no < 0
  · have HR := Lib.hid (when_no (no := no) (e := e) (by omega) w)
    clear hn he
    go_enter Try.func38, Try.ntmps38
    go_wp2
    go_ret2
    exact HR.out
  · by_cases h2 : e < 0
    · have HR := Lib.hid (when_no (no := no) (e := e) (by omega) w)
      clear hn he
      go_enter Try.func38, Try.ntmps38
      go_wp2
      go_ret2
      exact HR.out
    · by_cases h0 : e = 0
      · subst h0
        have HR := Lib.hid (when_yes (no := no) (e := 0) (p := 0) (by omega) (by omega) w)
        have d1 : wrap64 (no * 0) = 0 := by rw [Int.mul_zero]; unfold wrap64; omega
        clear hn he
        go_enter Try.func38, Try.ntmps38
        go_wp2
        go_ret2
        exact HR.out
      · have hep : 0 < e := by omega
        have hq : (1152921504606846976 : Int).tdiv e = 1152921504606846976 / e := Int.tdiv_eq_ediv_of_nonneg (by decide)
        have hq1 := Int.ediv_le_self (a := (1152921504606846976 : Int)) e (by decide)
        have hq0 := Int.ediv_nonneg (a := (1152921504606846976 : Int)) (b := e) (by decide) (by omega)
        have hiff : no ≤ 1152921504606846976 / e ↔ no * e ≤ 1152921504606846976 := Int.le_ediv_iff_mul_le hep
        have hnn : 0 ≤ no * e := Int.mul_nonneg (by omega) (by omega)
        have hz : (e == 0) = false := by simp; omega
        have hz1 : decide (0 < e) = true := by simp; omega
        obtain ⟨q, eq⟩ : ∃ q, (1152921504606846976 : Int) / e = q := ⟨_, rfl⟩
        rw [eq] at hq hq1 hq0 hiff
        have hwq : wrap64 q = q := by unfold wrap64; omega
        by_cases h3 : no ≤ q
        · have hle := hiff.1 h3
          have HR := Lib.hid (when_yes (no := no) (e := e) (p := no * e) (by omega) rfl w)
          have d1 : decide (q < no) = false := by simp; omega
          have d2 : wrap64 (no * e) = no * e := by unfold wrap64; omega
          clear hn he hiff hnn h3 hle hq1 hq0 eq
          go_enter Try.func38, Try.ntmps38
          go_wp2
          go_ret2
          exact HR.out
        · have hle := fun h => h3 (hiff.2 h)
          have HR := Lib.hid (when_no (no := no) (e := e) (fun h => hle h.2.2) w)
          have d1 : decide (q < no) = true := by simp; omega
          clear hn he hiff hnn h3 hle hq1 hq0 eq
          go_enter Try.func38, Try.ntmps38
          go_wp2
          go_ret2
          exact HR.out

theorem first_up {a e : Int} (he : 1 ≤ e) : (a / e * e < a → (a - 1) / e + 1 = a / e + 1) ∧ (¬ a / e * e < a → (a - 1) / e + 1 = a / e) := by
  have h1 := Int.mul_ediv_add_emod a e
  have h2 := Int.emod_nonneg a (by omega : e ≠ 0)
  have h3 := Int.emod_lt_of_pos a (by omega : 0 < e)
  rw [Int.mul_comm] at h1
  have key : ∀ q r : Int, a - 1 = q * e + r → 0 ≤ r → r < e → (a - 1) / e = q := by
    intro q r h hr0 hr1
    have := Int.add_mul_ediv_right r q (by omega : e ≠ 0)
    rw [h, Int.add_comm, this, Int.ediv_eq_zero_of_lt hr0 hr1]
    omega
  constructor
  · intro h
    rw [key (a / e) (a % e - 1) (by omega) (by omega) (by omega)]
  · intro h
    have h5 : (a / e - 1) * e = a / e * e - e := by rw [Int.sub_mul, Int.one_mul]
    rw [key (a / e - 1) (e - 1) (by omega) (by omega) (by omega)]
    omega

theorem rfirst_any (a e : Int) (ha : -9223372036854775808 ≤ a ∧ a ≤ 9223372036854775807) (he : -9223372036854775808 ≤ e ∧ e ≤ 9223372036854775807) (w : World) :
    Calls Try.prog 39 #[.int .i64 a, .int .i64 e] w (fun x w' => x = .returned (.int .i64 (firstI a e)) ∧ w = w') := by
  by_cases h1 : e < 1
  · have hf : firstI a e = 1 := by unfold firstI; rw [if_pos (.inl h1)]
    rw [hf]
    clear ha he hf
    go_enter Try.func39, Try.ntmps39
    go_wp2
    go_ret
    exact ⟨rfl, rfl⟩
  · by_cases h2 : a < 1
    · have hf : firstI a e = 1 := by unfold firstI; rw [if_pos (.inr h2)]
      rw [hf]
      clear ha he hf
      go_enter Try.func39, Try.ntmps39
      go_wp2
      go_ret
      exact ⟨rfl, rfl⟩
    · have hf : firstI a e = (a - 1) / e + 1 := by unfold firstI; rw [if_neg (by omega)]
      obtain ⟨hu1, hu2⟩ := first_up (a := a) (by omega : 1 ≤ e)
      have hq : a.tdiv e = a / e := Int.tdiv_eq_ediv_of_nonneg (by omega)
      have hq1 := Int.ediv_le_self (a := a) e (by omega)
      have hq0 := Int.ediv_nonneg (a := a) (b := e) (by omega) (by omega)
      have hle := Int.ediv_mul_le a (by omega : e ≠ 0)
      obtain ⟨q, eq⟩ : ∃ q, a / e = q := ⟨_, rfl⟩
      rw [eq] at hq hq1 hq0 hle hu1 hu2
      have hqe0 : 0 ≤ q * e := Int.mul_nonneg hq0 (by omega)
      obtain ⟨z, ez⟩ : ∃ z, q * e = z := ⟨_, rfl⟩
      rw [ez] at hle hqe0 hu1 hu2
      have hz : (e == 0) = false := by simp; omega
      have hz1 : e ≠ 0 := by omega
      have hw1 : wrap64 q = q := by unfold wrap64; omega
      have hw2 : wrap64 z = z := by unfold wrap64; omega
      by_cases h3 : z < a
      · have hw3 : wrap64 (q + 1) = q + 1 := by
          have : q < 9223372036854775807 := by
            rcases Int.lt_or_eq_of_le hq1 with h | h
            · omega
            · exfalso
              subst h
              have : q * 1 ≤ q * e := Int.mul_le_mul_of_nonneg_left (by omega) (by omega)
              omega
          unfold wrap64; omega
        rw [hf, hu1 h3]
        have d1 : decide (z < a) = true := by simp; omega
        clear ha he hf hq1 hq0 hle hqe0 eq hu1 hu2 h3
        go_enter Try.func39, Try.ntmps39
        go_wp2
        go_ret
        exact ⟨rfl, rfl⟩
      · rw [hf, hu2 h3]
        have d1 : decide (z < a) = false := by simp; omega
        clear ha he hf hq1 hq0 hle hqe0 eq hu1 hu2 h3
        go_enter Try.func39, Try.ntmps39
        go_wp2
        go_ret
        exact ⟨rfl, rfl⟩

theorem roundWhen_walk (no e a : Int) (w : World) (hn : -9223372036854775808 ≤ no ∧ no ≤ 9223372036854775807) (he : -9223372036854775808 ≤ e ∧ e ≤ 9223372036854775807) (ha : -9223372036854775808 ≤ a ∧ a ≤ 9223372036854775807) :
    Calls Try.prog 12 #[.int .i64 no, .int .i64 e, .int .i64 a] w (RetV w (.bool true)) := by
  have HW := Lib.hid (fun W => when_any no e hn he W)
  have HD := Lib.hid (fun W => due_any no e hn he W)
  have HF := Lib.hid (fun W => round_first a e ha he W)
  have HR := Lib.hid (fun W => rfirst_any a e ha he W)
  have HWK := Lib.hid (fun W => roundWorks_any W)
  unfold WhenAt at HW HD
  obtain ⟨x, ex⟩ : ∃ x, whenI no e = x := ⟨_, rfl⟩
  obtain ⟨y, ey⟩ : ∃ y, whenB no e = y := ⟨_, rfl⟩
  obtain ⟨z, ez⟩ : ∃ z, firstI a e = z := ⟨_, rfl⟩
  rw [ex, ey] at HW HD
  rw [ez] at HF HR
  clear hn he ha ex ey ez
  go_enter Try.func12, Try.ntmps12
  go_wp2_with (first
    | (go_at_call 37; refine (HW.out _).mono ?_; rintro e w' ⟨rfl, rfl⟩)
    | (go_at_call 38; refine (HD.out _).mono ?_; rintro e w' ⟨rfl, rfl⟩)
    | (go_at_call 24; refine (HF.out _).mono ?_; rintro e w' ⟨rfl, rfl⟩)
    | (go_at_call 39; refine (HR.out _).mono ?_; rintro e w' ⟨rfl, rfl⟩)
    | (go_at_call 25; refine (HWK.out _).mono ?_; rintro e w1 ⟨rfl, hg⟩))
  go_ret
  exact ⟨rfl, hg⟩
end Go.Proofs.Ytihfcaconbcdjaa
