/- A set's nodes, rising: the lowest bit, then those of the rest. -/
import Derived.Test.YtgjieoljfcfacaaDoorSetsTW
import Derived.Test.YtgjieoljfcfacaaDoorNumL
import Derived.Lib.TrailingZeros
namespace Go.Proofs.YtgjieoljfcfacaaDoor
open Go.RowKit Go.Sort
theorem low_shape {x c m : Nat} (h : x = 2 ^ c * (2 * m + 1)) (j : Nat) : (x &&& (x - 1)).testBit j = (x.testBit j && decide (j ≠ c)) ∧ (j < c → x.testBit j = false) ∧ x.testBit c = true := by
  have hp : 0 < 2 ^ c := Nat.pow_pos (by omega)
  have h1 : ∀ j, x.testBit j = (decide (c ≤ j) && (2 * m + 1).testBit (j - c)) := fun j => by rw [h, Nat.testBit_two_pow_mul]
  have h2 : x - 1 = 2 ^ c * (2 * m) + (2 ^ c - 1) := by
    rw [h, Nat.mul_add, Nat.mul_one]
    omega
  have h3 : ∀ j, c ≤ j → (x - 1).testBit j = (2 * m).testBit (j - c) := fun j hj => by
    rw [h2, Nat.testBit_two_pow_mul_add _ (by omega), if_neg (by omega)]
  refine ⟨?_, fun hj => ?_, ?_⟩
  · rw [Nat.testBit_and]
    by_cases hj : c ≤ j
    · rw [h3 j hj, h1 j]
      by_cases he : j = c
      · subst he
        simp
      · obtain ⟨d, rfl⟩ : ∃ d, j = c + (d + 1) := ⟨j - c - 1, by omega⟩
        have e1 : c + (d + 1) - c = d + 1 := by omega
        rw [e1, Nat.testBit_succ, Nat.testBit_succ, show (2 * m + 1) / 2 = m by omega, show 2 * m / 2 = m by omega]
        simp [he]
    · rw [h1 j]
      simp [hj]
  · rw [h1 j]
    simp [show ¬ c ≤ j by omega]
  · rw [h1 c]
    simp
theorem up_listN (s : Nat) : Up (listN s) := by
  unfold listN Up
  refine List.Pairwise.filterMap _ (R := (· < ·)) (fun a b hab x hx y hy => ?_) List.pairwise_lt_range
  split at hx <;> simp at hx
  split at hy <;> simp at hy
  subst hx; subst hy
  omega
theorem ctz_spec (x : Nat) (h0 : x ≠ 0) (h : x < 18446744073709551616) : ∃ m, x = 2 ^ Lib.ctz 64 x * (2 * m + 1) ∧ Lib.ctz 64 x < 64 := by
  obtain ⟨m, hm, hl⟩ := Lib.ctzFrom_spec 64 x (by omega) (by simpa using h)
  have e : Lib.ctz 64 x = Lib.ctzFrom 64 x := by unfold Lib.ctz; rw [if_neg h0]
  rw [e]
  exact ⟨m, hm, hl⟩
/-- The rest, its lowest bit struck. -/
def lowN (x : Nat) : Nat := x &&& (x - 1)
theorem lowN_lt {x : Nat} (h0 : x ≠ 0) : lowN x < x := Nat.lt_of_le_of_lt Nat.and_le_right (by omega)
theorem listN_cons (x : Nat) (h0 : x ≠ 0) (h : x < 18446744073709551616) : listN x = (Lib.ctz 64 x : Int) :: listN (lowN x) := by
  obtain ⟨m, hm, hl⟩ := ctz_spec x h0 h
  obtain ⟨c, ec⟩ : ∃ c, Lib.ctz 64 x = c := ⟨_, rfl⟩
  rw [ec] at hm hl ⊢
  have hs := low_shape hm
  have hin : ∀ y, y ∈ listN (lowN x) ↔ y ∈ listN x ∧ y ≠ (c : Int) := fun y => by
    rw [mem_listN, mem_listN]
    unfold hasN lowN
    rw [(hs y.toNat).1]
    by_cases hy : 0 ≤ y ∧ y < 64
    · have : (y.toNat ≠ c) ↔ (y ≠ (c : Int)) := by omega
      simp [hy, this]
    · simp [hy]
  refine up_ext (up_listN x) (List.pairwise_cons.2 ⟨fun a ha => ?_, up_listN _⟩) fun y => ?_
  · have h1 := (hin a).1 ha
    have h2 := (mem_listN x a).1 h1.1
    unfold hasN at h2
    simp only [Bool.and_eq_true, decide_eq_true_eq] at h2
    apply Decidable.byContradiction
    intro hc
    have h3 : a.toNat < c := by omega
    rw [(hs a.toNat).2.1 h3] at h2
    exact absurd h2.2 (by simp)
  · rw [List.mem_cons, hin]
    by_cases hy : y = (c : Int)
    · subst hy
      simp only [true_or, iff_true]
      rw [mem_listN]
      unfold hasN
      rw [Int.toNat_natCast, (hs c).2.2]
      simp
      omega
    · simp [hy]
theorem listN_zero : listN 0 = [] := by decide
end Go.Proofs.YtgjieoljfcfacaaDoor
