/- Plain laws for RoundOrder: the same readings in two orders. -/
import Derived.Test.YtihfcaconbcdjaaRoundC
import Derived.Test.YtihfcaconbcdjaaRoundF
namespace Go.Proofs.Ytihfcaconbcdjaa
open Go.RowKit Go.Sort Go.Maps
set_option maxHeartbeats 1000000
set_option maxRecDepth 100000

def kN (n t j : Nat) : Nat := (n - 1 - j + t) % n
theorem kN_lt {n j : Nat} (t : Nat) (h : j < n) : kN n t j < n := Nat.mod_lt _ (by omega)
theorem kN_inv {n j : Nat} (t : Nat) (h : j < n) : kN n t (kN n t j) = j := by
  have hr := kN_lt t h
  have hd : n * ((n - 1 - j + t) / n) + kN n t j = n - 1 - j + t := Nat.div_add_mod _ _
  obtain ⟨r, er⟩ : ∃ r, kN n t j = r := ⟨_, rfl⟩
  obtain ⟨q, eq⟩ : ∃ q, n * ((n - 1 - j + t) / n) = q := ⟨_, rfl⟩
  obtain ⟨d, ed⟩ : ∃ d, (n - 1 - j + t) / n = d := ⟨_, rfl⟩
  rw [er] at hr hd
  rw [eq] at hd
  rw [ed] at eq
  rw [er]
  unfold kN
  have h1 : n - 1 - r + t = j + n * d := by rw [eq]; omega
  rw [h1, Nat.add_mul_mod_self_left, Nat.mod_eq_of_lt h]
theorem kN_inj {n i j : Nat} (t : Nat) (hi : i < n) (hj : j < n) (h : kN n t i = kN n t j) : i = j := by
  rw [← kN_inv t hi, h, kN_inv t hj]
def esA (l : List Int) (k : Nat) : List (Int × Int) := (List.range k).map fun (i : Nat) => ((i : Int), l.getD i 0)
def esB (l : List Int) (n t k : Nat) : List (Int × Int) := (List.range k).map fun i => ((kN n t i : Int), l.getD (kN n t i) 0)
theorem esA_succ (l : List Int) (k : Nat) : esA l (k + 1) = esA l k ++ [((k : Int), l.getD k 0)] := by simp [esA, List.range_succ]
theorem esB_succ (l : List Int) (n t k : Nat) : esB l n t (k + 1) = esB l n t k ++ [((kN n t k : Int), l.getD (kN n t k) 0)] := by simp [esB, List.range_succ]
theorem esA_length (l : List Int) (k : Nat) : (esA l k).length = k := by simp [esA]
theorem esB_length (l : List Int) (n t k : Nat) : (esB l n t k).length = k := by simp [esB]
theorem mem_esA {l : List Int} {k : Nat} {p : Int × Int} : p ∈ esA l k ↔ ∃ i : Nat, i < k ∧ p = ((i : Int), l.getD i 0) := by
  unfold esA
  rw [List.mem_map]
  exact ⟨fun ⟨i, hi, e⟩ => ⟨i, List.mem_range.1 hi, e.symm⟩, fun ⟨i, hi, e⟩ => ⟨i, List.mem_range.2 hi, e.symm⟩⟩
theorem mem_esB {l : List Int} {n t k : Nat} {p : Int × Int} : p ∈ esB l n t k ↔ ∃ i, i < k ∧ p = ((kN n t i : Int), l.getD (kN n t i) 0) := by
  unfold esB
  rw [List.mem_map]
  exact ⟨fun ⟨i, hi, e⟩ => ⟨i, List.mem_range.1 hi, e.symm⟩, fun ⟨i, hi, e⟩ => ⟨i, List.mem_range.2 hi, e.symm⟩⟩
theorem noteA (l : List Int) (k : Nat) (hk : k < 64) : noteF (esA l k) k = 0 ∧ noteL (esA l k) k (l.getD k 0) = esA l (k + 1) := by
  have h0 : noteF (esA l k) k = 0 := by
    unfold noteF
    rw [if_neg (by omega), if_neg]
    intro hc
    obtain ⟨p, hp, e⟩ := List.mem_map.1 hc
    obtain ⟨i, hi, rfl⟩ := mem_esA.1 hp
    simp at e
    omega
  exact ⟨h0, by unfold noteL; rw [if_pos h0, esA_succ]⟩
theorem noteB (l : List Int) (n t k : Nat) (hn : n ≤ 64) (hk : k < n) : noteF (esB l n t k) (kN n t k : Nat) = 0 ∧ noteL (esB l n t k) (kN n t k : Nat) (l.getD (kN n t k) 0) = esB l n t (k + 1) := by
  have hl := kN_lt t hk
  have h0 : noteF (esB l n t k) (kN n t k : Nat) = 0 := by
    unfold noteF
    rw [if_neg (by omega), if_neg]
    intro hc
    obtain ⟨p, hp, e⟩ := List.mem_map.1 hc
    obtain ⟨i, hi, rfl⟩ := mem_esB.1 hp
    simp only at e
    have := kN_inj t (by omega : i < n) hk (by omega)
    omega
  exact ⟨h0, by unfold noteL; rw [if_pos h0, esB_succ]⟩
theorem esA_perm (l : List Int) (n t : Nat) : (esA l n).Perm (esB l n t n) := by
  refine (List.perm_ext_iff_of_nodup ?_ ?_).2 fun p => ?_
  · unfold esA List.Nodup
    rw [List.pairwise_map]
    exact List.nodup_range.imp_of_mem fun _ _ hne hc => hne (by have := congrArg Prod.fst hc; simp only at this; omega)
  · unfold esB List.Nodup
    rw [List.pairwise_map]
    exact List.nodup_range.imp_of_mem fun ha hb hne hc => hne (kN_inj t (List.mem_range.1 ha) (List.mem_range.1 hb) (by have := congrArg Prod.fst hc; simp only at this; omega))
  · rw [mem_esA, mem_esB]
    constructor
    · rintro ⟨i, hi, rfl⟩
      exact ⟨kN n t i, kN_lt t hi, by rw [kN_inv t hi]⟩
    · rintro ⟨i, hi, rfl⟩
      exact ⟨kN n t i, kN_lt t hi, rfl⟩
theorem esA_keys (l : List Int) (n : Nat) (hn : n ≤ 64) : Keys64 (esA l n) := fun p hp => by
  obtain ⟨i, hi, rfl⟩ := mem_esA.1 hp
  simp only
  omega
theorem esA_rng {l : List Int} (hr : Rng l) (n : Nat) : Rng (dsOf (esA l n)) := fun x hx => by
  obtain ⟨p, hp, rfl⟩ := List.mem_map.1 hx
  obtain ⟨i, hi, rfl⟩ := mem_esA.1 hp
  simp only [List.getD_eq_getElem?_getD]
  cases hg : l[i]? with
  | none => simp
  | some y => exact hr y (List.mem_of_getElem? hg)
theorem wrap_small {x : Int} (h : -4294967296 ≤ x ∧ x ≤ 4294967296) : wrap64 x = x := by unfold wrap64; omega
theorem order_facts {n t k : Nat} (hn : n ≤ 40) (ht : t ≤ 255) (hk : k < n) :
    wrap64 ((n : Int) - 1) = (n : Int) - 1 ∧ wrap64 ((n : Int) - 1 - (k : Int)) = (n : Int) - 1 - (k : Int) ∧ wrap64 ((n : Int) - 1 - (k : Int) + (t : Int)) = (n : Int) - 1 - (k : Int) + (t : Int) ∧ wrap64 (t : Int) = (t : Int)
      ∧ wrap64 ((kN n t k : Nat) : Int) = ((kN n t k : Nat) : Int) ∧ ((n : Int) == 0) = false ∧ ((n : Int) - 1 - (k : Int) + (t : Int)).tmod (n : Int) = ((kN n t k : Nat) : Int) := by
  have hq := kN_lt t hk
  refine ⟨wrap_small (by omega), wrap_small (by omega), wrap_small (by omega), wrap_small (by omega), wrap_small (by omega), by simp; omega, ?_⟩
  have h1 : (n : Int) - 1 - (k : Int) + (t : Int) = ((n - 1 - k + t : Nat) : Int) := by omega
  rw [h1, Int.tmod_eq_emod_of_nonneg (Int.natCast_nonneg _)]
  unfold kN
  rw [Int.natCast_emod]
theorem read_cell {l : List Int} {w : World} {g o nl cap j : Nat} (hi : IHas w (.slice (some ⟨g, o, none⟩) nl cap) l) (en : l.length = nl) (hj : j < nl) : w.cell? ⟨g, o + j, none⟩ = some (.int .i64 (l.getD j 0)) := by
  rw [List.getD_eq_getElem?_getD, List.getElem?_eq_getElem (by omega)]
  exact hi.cell j (by omega)
theorem read_wf {l : List Int} (hr : Rng l) (j : Nat) : (Lit.int .i64 (l.getD j 0)).wf = true := by
  have : -9223372036854775808 ≤ l.getD j 0 ∧ l.getD j 0 ≤ 9223372036854775807 := by
    rw [List.getD_eq_getElem?_getD]
    cases hg : l[j]? with
    | none => simp
    | some y => exact hr y (List.mem_of_getElem? hg)
  generalize l.getD j 0 = y at this
  simp [Lit.wf, IntKind.min, IntKind.max, IntKind.signed, IntKind.bits]
  omega
end Go.Proofs.Ytihfcaconbcdjaa
