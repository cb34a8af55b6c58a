/- The walk of TrimNear. -/
import Derived.Test.YtihfcaconbcdjaaTwo
import Derived.Test.YtihfcaconbcdjaaTrimN
import Derived.Test.YtihfcaconbcdjaaTrimS
import Derived.Test.YtihfcaconbcdjaaTrimO
namespace Go.Proofs.Ytihfcaconbcdjaa
open Go.RowKit Go.Sort
set_option maxHeartbeats 2000000
set_option maxRecDepth 100000

def nA (l : List Int) (k : Nat) : List Int := (List.range k).map fun i => l.getD i 0
def nB (l y : List Int) (k : Nat) : List Int := (List.range k).map fun i => l.getD i 0 + y.getD i 0
def nD (y : List Int) : Nat → Int
  | 0 => 0
  | k + 1 => max (max (nD y k) (y.getD k 0)) (-(y.getD k 0))
theorem nA_succ (l : List Int) (k : Nat) : nA l (k + 1) = nA l k ++ [l.getD k 0] := by simp [nA, List.range_succ]
theorem nB_succ (l y : List Int) (k : Nat) : nB l y (k + 1) = nB l y k ++ [l.getD k 0 + y.getD k 0] := by simp [nB, List.range_succ]
theorem nA_length (l : List Int) (k : Nat) : (nA l k).length = k := by simp [nA]
theorem nB_length (l y : List Int) (k : Nat) : (nB l y k).length = k := by simp [nB]
theorem near_lists (l y : List Int) (k : Nat) : LeD (nD y k) (nA l k) (nB l y k) ∧ LeD (nD y k) (nB l y k) (nA l k) := by
  induction k with
  | zero => exact ⟨trivial, trivial⟩
  | succ k ih =>
    rw [nA_succ, nB_succ]
    have h : nD y (k + 1) = max (max (nD y k) (y.getD k 0)) (-(y.getD k 0)) := rfl
    have h1 : nD y k ≤ nD y (k + 1) := by omega
    exact ⟨(ih.1.mono h1).snoc (by omega), (ih.2.mono h1).snoc (by omega)⟩
def R32 (l : List Int) : Prop := ∀ x ∈ l, -2147483648 ≤ x ∧ x ≤ 2147483647
def R16 (l : List Int) : Prop := ∀ x ∈ l, -32768 ≤ x ∧ x ≤ 32767
theorem getD_rng {l : List Int} {a b : Int} (h : ∀ x ∈ l, a ≤ x ∧ x ≤ b) (ha : a ≤ 0) (hb : 0 ≤ b) (i : Nat) : a ≤ l.getD i 0 ∧ l.getD i 0 ≤ b := by
  rw [List.getD_eq_getElem?_getD]
  by_cases hi : i < l.length
  · rw [List.getElem?_eq_getElem hi]
    exact h _ (List.getElem_mem hi)
  · rw [List.getElem?_eq_none (by omega)]
    exact ⟨ha, hb⟩
theorem nD_rng (y : List Int) (h : R16 y) (k : Nat) : 0 ≤ nD y k ∧ nD y k ≤ 32768 := by
  induction k with
  | zero => exact ⟨Int.le_refl 0, (by decide : (0 : Int) ≤ 32768)⟩
  | succ k ih =>
    have hk := getD_rng h (by omega) (by omega) k
    have e : nD y (k + 1) = max (max (nD y k) (y.getD k 0)) (-(y.getD k 0)) := rfl
    omega
theorem nA_rng (l : List Int) (h : R32 l) (k : Nat) : ∀ x ∈ nA l k, -4294967296 ≤ x ∧ x ≤ 4294967296 := by
  intro x hx
  simp only [nA, List.mem_map] at hx
  obtain ⟨i, _, rfl⟩ := hx
  have := getD_rng h (by omega) (by omega) i
  omega
theorem nB_rng (l y : List Int) (h : R32 l) (hy : R16 y) (k : Nat) : ∀ x ∈ nB l y k, -4294967296 ≤ x ∧ x ≤ 4294967296 := by
  intro x hx
  simp only [nB, List.mem_map] at hx
  obtain ⟨i, _, rfl⟩ := hx
  have := getD_rng h (by omega) (by omega) i
  have := getD_rng hy (by omega) (by omega) i
  omega
theorem NHas.len {k : IntKind} {w : World} {v : Value} {l : List Int} {n : Nat} (h : NHas k w v l) (hl : l.length = n) : ∃ a cap, v = .slice a n cap ∧ ∀ i, (hi : i < n) → ∃ g o, a = some ⟨g, o, none⟩ ∧ n ≤ cap ∧ g < w.heap.size ∧ w.cell? ⟨g, o + i, none⟩ = some (.int k (l.getD i 0)) := by
  subst hl
  rcases h with ⟨rfl, a, cap, rfl⟩ | ⟨g, o, cap, rfl, h4, hg, hc⟩
  · exact ⟨a, cap, rfl, fun i hi => by simp at hi⟩
  · exact ⟨_, cap, rfl, fun i hi => ⟨g, o, rfl, h4, hg, by rw [hc i hi, List.getD_eq_getElem?_getD, List.getElem?_eq_getElem hi]; rfl⟩⟩
end Go.Proofs.Ytihfcaconbcdjaa
