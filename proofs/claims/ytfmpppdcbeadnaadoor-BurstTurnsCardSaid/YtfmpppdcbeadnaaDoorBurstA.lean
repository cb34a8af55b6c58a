/- Bits of a number: where the lowest and the highest ones are; the contracts of math/bits; how wide some bits are. -/
import Derived.Test.YtfmpppdcbeadnaaDoorBase
import Derived.Test.YtfmpppdcbeadnaaDoorShelf
import Derived.Shelf.Spec.TrailingZeros
import Derived.Lib.ItoaNum
namespace Go.Proofs.YtfmpppdcbeadnaaDoor
open Go.RowKit Go.Sort

/-- Bit i of x. -/
def bitAt (x i : Nat) : Prop := x / 2 ^ i % 2 = 1
instance (x i : Nat) : Decidable (bitAt x i) := inferInstanceAs (Decidable (_ = _))

theorem odd_shape {x c m : Nat} (h : x = 2 ^ c * (2 * m + 1)) : bitAt x c ∧ ∀ k, k < c → ¬ bitAt x k := by
  have hp : 0 < 2 ^ c := Nat.pow_pos (by omega)
  refine ⟨?_, fun k hk => ?_⟩
  · unfold bitAt
    rw [h, Nat.mul_div_cancel_left _ hp]
    omega
  · unfold bitAt
    have e : 2 ^ c = 2 ^ k * (2 * 2 ^ (c - k - 1)) := by
      rw [← Nat.pow_succ', ← Nat.pow_add]
      congr 1
      omega
    have hq : 0 < 2 ^ k := Nat.pow_pos (by omega)
    rw [h, e, Nat.mul_assoc, Nat.mul_div_cancel_left _ hq, Nat.mul_assoc, Nat.mul_mod_right]
    omega
theorem high_shape {x n : Nat} (h : x < 2 ^ n) (k : Nat) (hk : n ≤ k) : ¬ bitAt x k := by
  unfold bitAt
  have : x < 2 ^ k := Nat.lt_of_lt_of_le h (Nat.pow_le_pow_right (by omega) hk)
  rw [Nat.div_eq_of_lt this]
  omega
theorem top_shape {x n : Nat} (h : x < 2 ^ (n + 1)) (h2 : 2 ^ n ≤ x) : bitAt x n := by
  unfold bitAt
  have hq : 0 < 2 ^ n := Nat.pow_pos (by omega)
  have h3 : x / 2 ^ n < 2 := by
    rw [Nat.div_lt_iff_lt_mul hq, Nat.mul_comm, ← Nat.pow_succ]
    exact h
  have h4 : 1 ≤ x / 2 ^ n := by
    rw [Nat.le_div_iff_mul_le hq]
    omega
  omega

theorem ctz32_spec (x : Nat) (h0 : x ≠ 0) (h : x < 4294967296) : bitAt x (Lib.ctz 32 x) ∧ (∀ k, k < Lib.ctz 32 x → ¬ bitAt x k) ∧ Lib.ctz 32 x < 32 := by
  obtain ⟨m, hm, hl⟩ := Lib.ctzFrom_spec 32 x (by omega) (by simpa using h)
  have e : Lib.ctz 32 x = Lib.ctzFrom 32 x := by unfold Lib.ctz; rw [if_neg h0]
  rw [e]
  exact ⟨(odd_shape hm).1, (odd_shape hm).2, hl⟩

theorem len_spec (x : Nat) (h0 : x ≠ 0) (h : x < 4294967296) : 1 ≤ Lib.bitLen x ∧ bitAt x (Lib.bitLen x - 1) ∧ (∀ k, Lib.bitLen x ≤ k → ¬ bitAt x k) ∧ Lib.bitLen x ≤ 32 := by
  obtain ⟨h1, h2, h3⟩ := Lib.bitLenAux_bounds 64 x (by omega) h0
  have e : Lib.bitLen x = Lib.bitLenAux 64 x := rfl
  rw [← e] at h1 h2 h3
  refine ⟨h1, top_shape ?_ h2, high_shape h3, ?_⟩
  · rw [Nat.sub_add_cancel h1]; exact h3
  · apply Decidable.byContradiction
    intro hc
    have h4 : 2 ^ 32 ≤ 2 ^ (Lib.bitLen x - 1) := Nat.pow_le_pow_right (by omega) (by omega)
    omega

/-- How wide some bits are. -/
def widthN (x : Nat) : Int := if x = 0 then 0 else (Lib.bitLen x : Int) - (Lib.ctz 32 x : Int)

set_option maxHeartbeats 1000000 in
theorem tz32_any (x : Nat) (hx : x < 4294967296) (w : World) (hT : TabAt 0 Lib.deBruijn32tab w) :
    Calls Tryd.prog 18 #[.int .u32 (x : Int)] w (fun e w' => e = .returned (.int .i64 (Lib.ctz 32 x : Int)) ∧ w = w') := by
  by_cases h0 : x = 0
  · subst h0
    go_enter Tryd.func18, Tryd.ntmps18
    go_wp2
    go_ret
    exact ⟨rfl, rfl⟩
  · obtain ⟨hlow, hk⟩ := Lib.lowest_bit 32 x h0 (by simpa using hx)
    obtain ⟨hi, htab⟩ := Lib.deBruijn32_at _ hk
    have hcell := hT _ hi
    rw [htab] at hcell
    have key := tz32_key x _ hx h0 hlow
    obtain ⟨k, ek⟩ : ∃ k, Lib.ctz 32 x = k := ⟨_, rfl⟩
    rw [ek] at hk hi hcell key ⊢
    obtain ⟨q, eq⟩ : ∃ q, 2 ^ k * 125613361 % 4294967296 / 134217728 = q := ⟨_, rfl⟩
    rw [eq] at hi hcell key
    clear hlow htab ek eq hT
    have hx0 : ((x : Int) == 0) = false := by simp; omega
    go_enter Tryd.func18, Tryd.ntmps18
    go_wp2_with (simp only [key])
    go_ret
    exact ⟨rfl, rfl⟩
end Go.Proofs.YtfmpppdcbeadnaaDoor
