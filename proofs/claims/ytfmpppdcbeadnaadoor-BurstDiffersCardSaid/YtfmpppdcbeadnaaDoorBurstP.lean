/- Bytes of which bits are turned: the plain law. -/
import Derived.Test.YtfmpppdcbeadnaaDoorBurstC
namespace Go.Proofs.YtfmpppdcbeadnaaDoor
open Go.RowKit Go.Sort

/-- Byte m of y. -/
def byteAt (y m : Nat) : Nat := y / 2 ^ (8 * m) % 256
theorem byteAt_bit (y m k : Nat) : (byteAt y m).testBit k = (decide (k < 8) && y.testBit (8 * m + k)) := by
  unfold byteAt
  rw [show 256 = 2 ^ 8 from rfl, Nat.testBit_mod_two_pow, Nat.testBit_div_two_pow, Nat.add_comm k]
theorem byteAt_lt (y m : Nat) : byteAt y m < 256 := Nat.mod_lt _ (by omega)
/-- The bytes l with the bits x turned at p. -/
def turnN (l : List Nat) (p x : Nat) : List Nat := l.mapIdx fun i b => b ^^^ byteAt (x * 2 ^ p) i
theorem turnN_length (l : List Nat) (p x : Nat) : (turnN l p x).length = l.length := by simp [turnN]
theorem turnN_get (l : List Nat) (p x i : Nat) (h : i < l.length) : (turnN l p x)[i]'(by rw [turnN_length]; exact h) = l[i] ^^^ byteAt (x * 2 ^ p) i := by simp [turnN]
theorem okB_turnN {l : List Nat} (h : okB l) (p x : Nat) : okB (turnN l p x) := by
  intro y hy
  unfold turnN at hy
  rw [List.mem_mapIdx] at hy
  obtain ⟨i, hi, rfl⟩ := hy
  exact Nat.xor_lt_two_pow (n := 8) (h _ (List.getElem_mem hi)) (byteAt_lt _ _)

/-- One bit more. -/
theorem turnN_off {l : List Nat} {p x i : Nat} (hb : ¬ bitAt x i ∨ l.length ≤ (p + i) / 8) : turnN l p (x % 2 ^ (i + 1)) = turnN l p (x % 2 ^ i) := by
  apply List.ext_getElem (by simp [turnN_length])
  intro m h1 h2
  have hm : m < l.length := by simpa [turnN_length] using h1
  rw [turnN_get _ _ _ _ hm, turnN_get _ _ _ _ hm]
  congr 1
  apply Nat.eq_of_testBit_eq
  intro k
  rw [byteAt_bit, byteAt_bit]
  by_cases hk : k < 8
  · simp only [hk, decide_true, Bool.true_and, Nat.testBit_mul_two_pow, Nat.testBit_mod_two_pow]
    by_cases he : 8 * m + k - p = i ∧ p ≤ 8 * m + k
    · rcases hb with hb | hb
      · have : x.testBit i = false := by
          rw [Nat.testBit_eq_decide_div_mod_eq]
          simpa [bitAt] using hb
        rw [he.1, this]
        simp
      · omega
    · by_cases hp : p ≤ 8 * m + k
      · have : decide (8 * m + k - p < i + 1) = decide (8 * m + k - p < i) := by
          rw [decide_eq_decide]; omega
        rw [this]
      · simp [hp]
  · simp [hk]
theorem turnN_on {l : List Nat} {p x i : Nat} (hb : bitAt x i) (hj : (p + i) / 8 < l.length) :
    turnN l p (x % 2 ^ (i + 1)) = (turnN l p (x % 2 ^ i)).set ((p + i) / 8) ((turnN l p (x % 2 ^ i))[(p + i) / 8]'(by rw [turnN_length]; exact hj) ^^^ 2 ^ ((p + i) % 8)) := by
  apply List.ext_getElem (by simp [turnN_length])
  intro m h1 h2
  have hm : m < l.length := by simpa [turnN_length] using h1
  have hx : x.testBit i = true := by
    rw [Nat.testBit_eq_decide_div_mod_eq]
    simpa [bitAt] using hb
  rw [turnN_get _ _ _ _ hm, List.getElem_set]
  split
  · rename_i hjm
    subst hjm
    rw [turnN_get _ _ _ _ hj, Nat.xor_assoc]
    congr 1
    apply Nat.eq_of_testBit_eq
    intro k
    rw [Nat.testBit_xor, byteAt_bit, byteAt_bit, Nat.testBit_two_pow]
    by_cases hk : k < 8
    · simp only [hk, decide_true, Bool.true_and, Nat.testBit_mul_two_pow, Nat.testBit_mod_two_pow]
      by_cases he : (p + i) % 8 = k
      · have e : 8 * ((p + i) / 8) + k - p = i := by omega
        rw [e, hx]
        simp [he]
        omega
      · by_cases hp : p ≤ 8 * ((p + i) / 8) + k
        · have : decide (8 * ((p + i) / 8) + k - p < i + 1) = decide (8 * ((p + i) / 8) + k - p < i) := by
            rw [decide_eq_decide]; omega
          rw [this]
          simp [he]
        · simp [hp, he]
    · have : ¬ (p + i) % 8 = k := by omega
      simp [hk, this]
  · rename_i hjm
    rw [turnN_get _ _ _ _ hm]
    congr 1
    apply Nat.eq_of_testBit_eq
    intro k
    rw [byteAt_bit, byteAt_bit]
    by_cases hk : k < 8
    · simp only [hk, decide_true, Bool.true_and, Nat.testBit_mul_two_pow, Nat.testBit_mod_two_pow]
      by_cases hp : p ≤ 8 * m + k
      · have : decide (8 * m + k - p < i + 1) = decide (8 * m + k - p < i) := by
          rw [decide_eq_decide]; omega
        rw [this]
      · simp [hp]
    · simp [hk]

/-! The program turns byte for byte. -/
def partN (l : List Nat) (p x k : Nat) : List Nat := l.mapIdx fun i b => if i < k then b ^^^ byteAt (x * 2 ^ p) i else b
theorem partN_length (l : List Nat) (p x k : Nat) : (partN l p x k).length = l.length := by simp [partN]
theorem partN_get (l : List Nat) (p x k i : Nat) (h : i < l.length) : (partN l p x k)[i]'(by rw [partN_length]; exact h) = if i < k then l[i] ^^^ byteAt (x * 2 ^ p) i else l[i] := by simp [partN]
theorem byteAt_low {x p m : Nat} (h : m < p / 8) : byteAt (x * 2 ^ p) m = 0 := by
  apply Nat.eq_of_testBit_eq
  intro k
  rw [byteAt_bit, Nat.zero_testBit, Nat.testBit_mul_two_pow]
  by_cases hk : k < 8
  · have : ¬ p ≤ 8 * m + k := by omega
    simp [this]
  · simp [hk]
/-- What the program's own number bears, k bytes further on. -/
theorem byteAt_own (x p k : Nat) : byteAt (x * 2 ^ p) (p / 8 + k) = (x * 2 ^ (p % 8)) / 2 ^ (8 * k) % 256 := by
  unfold byteAt
  congr 1
  have e1 : 2 ^ p = 2 ^ (p % 8) * 2 ^ (8 * (p / 8)) := by rw [← Nat.pow_add]; congr 1; omega
  have e2 : 2 ^ (8 * (p / 8 + k)) = 2 ^ (8 * k) * 2 ^ (8 * (p / 8)) := by rw [← Nat.pow_add]; congr 1; omega
  rw [e1, e2, ← Nat.mul_assoc]
  exact Nat.mul_div_mul_right _ _ (Nat.pow_pos (by omega))
theorem partN_start (l : List Nat) (p x : Nat) : partN l p x (p / 8) = l := by
  apply List.ext_getElem (partN_length _ _ _ _)
  intro m h1 h2
  rw [partN_get _ _ _ _ _ h2]
  split
  · rw [byteAt_low (by assumption), Nat.xor_zero]
  · rfl
theorem partN_step {l : List Nat} {p x k : Nat} (h : p / 8 + k < l.length) :
    partN l p x (p / 8 + (k + 1)) = (partN l p x (p / 8 + k)).set (p / 8 + k) (l[p / 8 + k] ^^^ ((x * 2 ^ (p % 8)) / 2 ^ (8 * k) % 256)) := by
  apply List.ext_getElem (by simp [partN_length])
  intro m h1 h2
  have hm : m < l.length := by simpa [partN_length] using h1
  rw [partN_get _ _ _ _ _ hm, List.getElem_set]
  by_cases hmk : p / 8 + k = m
  · subst hmk
    rw [if_pos (by omega), if_pos rfl, byteAt_own]
  · rw [if_neg hmk, partN_get _ _ _ _ _ hm]
    by_cases hlt : m < p / 8 + k
    · rw [if_pos (by omega), if_pos hlt]
    · rw [if_neg (by omega), if_neg hlt]
theorem partN_end {l : List Nat} {p x k : Nat} (h : l.length ≤ p / 8 + k ∨ (x * 2 ^ (p % 8)) / 2 ^ (8 * k) = 0) : partN l p x (p / 8 + k) = turnN l p x := by
  apply List.ext_getElem (by rw [partN_length, turnN_length])
  intro m h1 h2
  have hm : m < l.length := by simpa [partN_length] using h1
  rw [partN_get _ _ _ _ _ hm, turnN_get _ _ _ _ hm]
  split
  · rfl
  · rename_i hmk
    rcases h with h | h
    · omega
    · have e : m = p / 8 + (k + (m - p / 8 - k)) := by omega
      have : byteAt (x * 2 ^ p) m = 0 := by
        rw [e, byteAt_own, Nat.mul_add, Nat.pow_add, ← Nat.div_div_eq_div_mul, h]
        simp
      rw [this, Nat.xor_zero]
end Go.Proofs.YtfmpppdcbeadnaaDoor
