/- The least and the greatest of some places: the plain law of Differ. -/
import Derived.Test.YtfmpppdcbeadnaaDoorBurstU
namespace Go.Proofs.YtfmpppdcbeadnaaDoor
open Go.RowKit Go.Sort

/-- Below m: none has P; or l is the least and h the greatest that has. -/
def SpanRel (P : Nat → Prop) (m : Nat) : Option (Nat × Nat) → Prop
  | none => ∀ k, k < m → ¬ P k
  | some (l, h) => l ≤ h ∧ h < m ∧ P l ∧ P h ∧ ∀ k, k < m → P k → l ≤ k ∧ k ≤ h
theorem span_one {P : Nat → Prop} {m : Nat} {o1 o2 : Option (Nat × Nat)} (h1 : SpanRel P m o1) (h2 : SpanRel P m o2) : o1 = o2 := by
  match o1, o2, h1, h2 with
  | none, none, _, _ => rfl
  | none, some (l, h), h1, h2 => exact absurd h2.2.2.1 (h1 l (Nat.lt_of_le_of_lt h2.1 h2.2.1))
  | some (l, h), none, h1, h2 => exact absurd h1.2.2.1 (h2 l (Nat.lt_of_le_of_lt h1.1 h1.2.1))
  | some (l1, k1), some (l2, k2), ⟨a1, a2, a3, a4, a5⟩, ⟨b1, b2, b3, b4, b5⟩ =>
    have c1 := a5 l2 (by omega) b3
    have c2 := a5 k2 b2 b4
    have c3 := b5 l1 (by omega) a3
    have c4 := b5 k1 a2 a4
    have e1 : l1 = l2 := by omega
    have e2 : k1 = k2 := by omega
    rw [e1, e2]
/-- The bytes a and b differ in bit k. -/
def DiffAt (a b : List Nat) (k : Nat) : Prop := ((a.getD (k / 8) 0) ^^^ (b.getD (k / 8) 0)).testBit (k % 8) = true
/-- One byte more, alike. -/
theorem span_same {P : Nat → Prop} {i : Nat} {o : Option (Nat × Nat)} (h : SpanRel P (8 * i) o) (hn : ∀ k, k < 8 → ¬ P (8 * i + k)) : SpanRel P (8 * (i + 1)) o := by
  match o, h with
  | none, h =>
    intro k hk
    by_cases h1 : k < 8 * i
    · exact h k h1
    · have := hn (k - 8 * i) (by omega)
      rwa [show 8 * i + (k - 8 * i) = k by omega] at this
  | some (l, m), ⟨a1, a2, a3, a4, a5⟩ =>
    refine ⟨a1, by omega, a3, a4, fun k hk hp => ?_⟩
    by_cases h1 : k < 8 * i
    · exact a5 k h1 hp
    · have := hn (k - 8 * i) (by omega)
      rw [show 8 * i + (k - 8 * i) = k by omega] at this
      exact absurd hp this
/-- The least one, or another. -/
def firstOr (o : Option (Nat × Nat)) (d : Nat) : Nat := match o with | none => d | some p => p.1
/-- One byte more, which differs from its bit c to its bit t. -/
theorem span_more {P : Nat → Prop} {i c t : Nat} {o : Option (Nat × Nat)} (h : SpanRel P (8 * i) o) (hct : c ≤ t) (ht : t < 8) (hc : P (8 * i + c)) (htp : P (8 * i + t)) (hall : ∀ k, k < 8 → P (8 * i + k) → c ≤ k ∧ k ≤ t) :
    SpanRel P (8 * (i + 1)) (some (firstOr o (8 * i + c), 8 * i + t)) := by
  match o, h with
  | none, h =>
    show SpanRel P _ (some (8 * i + c, _))
    refine ⟨by omega, by omega, hc, htp, fun k hk hp => ?_⟩
    by_cases h1 : k < 8 * i
    · exact absurd hp (h k h1)
    · have := hall (k - 8 * i) (by omega) (by rwa [show 8 * i + (k - 8 * i) = k by omega])
      omega
  | some (l, m), ⟨a1, a2, a3, a4, a5⟩ =>
    show SpanRel P _ (some (l, _))
    refine ⟨by omega, by omega, a3, htp, fun k hk hp => ?_⟩
    by_cases h1 : k < 8 * i
    · have := a5 k h1 hp
      omega
    · have := hall (k - 8 * i) (by omega) (by rwa [show 8 * i + (k - 8 * i) = k by omega])
      omega

theorem byte_span : ∀ d : Fin 256, d.val ≠ 0 → 1 ≤ Lib.bitLen d.val ∧ Lib.trailingZeros8 d.val ≤ Lib.bitLen d.val - 1 ∧ Lib.bitLen d.val ≤ 8 ∧ d.val.testBit (Lib.trailingZeros8 d.val) = true ∧ d.val.testBit (Lib.bitLen d.val - 1) = true ∧
    ∀ k : Fin 8, d.val.testBit k.val = true → Lib.trailingZeros8 d.val ≤ k.val ∧ k.val ≤ Lib.bitLen d.val - 1 := by decide +kernel
theorem diff_at (a b : List Nat) (i k : Nat) (hk : k < 8) : DiffAt a b (8 * i + k) ↔ ((a.getD i 0) ^^^ (b.getD i 0)).testBit k = true := by
  unfold DiffAt
  rw [show (8 * i + k) / 8 = i by omega, show (8 * i + k) % 8 = k by omega]
/-- The program's round at byte i. -/
theorem span_byte {a b : List Nat} {i d : Nat} {o : Option (Nat × Nat)} (h : SpanRel (DiffAt a b) (8 * i) o) (hd : (a.getD i 0) ^^^ (b.getD i 0) = d) (h256 : d < 256) :
    SpanRel (DiffAt a b) (8 * (i + 1)) (if d = 0 then o else some (firstOr o (8 * i + Lib.trailingZeros8 d), 8 * i + (Lib.bitLen d - 1))) := by
  split
  · rename_i h0
    refine span_same h fun k hk => ?_
    rw [diff_at _ _ _ _ hk, hd, h0]
    simp
  · rename_i h0
    obtain ⟨h1, h2, h3, h4, h5, h6⟩ := byte_span ⟨d, h256⟩ h0
    refine span_more h h2 (by simp only at h1 h3; omega) ?_ ?_ fun k hk hp => ?_
    · rw [diff_at _ _ _ _ (by simp only at h1 h2 h3; omega), hd]; exact h4
    · rw [diff_at _ _ _ _ (by simp only at h1 h3; omega), hd]; exact h5
    · rw [diff_at _ _ _ _ hk, hd] at hp
      exact h6 ⟨k, hk⟩ hp
end Go.Proofs.YtfmpppdcbeadnaaDoor
