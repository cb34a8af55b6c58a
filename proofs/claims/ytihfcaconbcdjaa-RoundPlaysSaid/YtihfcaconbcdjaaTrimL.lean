/- What lies between the ends (plain). -/
import Derived.Test.YtihfcaconbcdjaaTrimK
namespace Go.Proofs.Ytihfcaconbcdjaa
open Go.RowKit Go.Sort
set_option maxHeartbeats 1000000
set_option maxRecDepth 100000

theorem sorted_le {l : List Int} (h : l.Pairwise (· ≤ ·)) (i j : Nat) (hj : j < l.length) (hij : i ≤ j) : l[i]'(by omega) ≤ l[j] := by
  rcases Nat.lt_or_ge i j with h1 | h1
  · exact List.pairwise_iff_getElem.1 h i j (by omega) hj h1
  · obtain rfl : i = j := by omega
    exact Int.le_refl _
theorem trim_ends (f : Int) (m : List Int) (h0 : 0 < m.length) (n : Nat) (hn : (trimI f m).length = n) :
    ∃ e : Nat, (n : Int) - 1 = (e : Int) ∧ e < n ∧ ∃ a b : Int, (∀ h : 0 < (trimI f m).length, (trimI f m)[0] = a) ∧ (∀ h : e < (trimI f m).length, (trimI f m)[e] = b) ∧ a ≤ midI (trimI f m) ∧ midI (trimI f m) ≤ b := by
  have hp := trimI_pos f m h0
  refine ⟨n - 1, by omega, by omega, (trimI f m)[0], (trimI f m)[n - 1]'(by omega), fun _ => rfl, fun _ => rfl, ?_⟩
  refine mid_rng _ _ _ hp fun x hx => ?_
  obtain ⟨i, hi, rfl⟩ := List.getElem_of_mem hx
  have hl := trimI_length f m
  have hc := cutN_le f m.length
  constructor
  · rw [trimI_get, trimI_get]
    exact sorted_le (sortI_sorted m) _ _ (by rw [sortI_length]; omega) (by omega)
  · rw [trimI_get, trimI_get]
    exact sorted_le (sortI_sorted m) _ _ (by rw [sortI_length]; omega) (by omega)
theorem countP_lo (L : List Int) (hL : L.Pairwise (· ≤ ·)) (k : Nat) (hk : k < L.length) (c : Int) (h : L[k] < c) : k + 1 ≤ L.countP (fun x => decide (x < c)) := by
  have h1 : (L.take (k + 1)).countP (fun x => decide (x < c)) = (L.take (k + 1)).length := by
    rw [List.countP_eq_length]
    intro x hx
    obtain ⟨i, hi, rfl⟩ := List.getElem_of_mem hx
    rw [List.length_take] at hi
    rw [List.getElem_take]
    have := sorted_le hL i k hk (by omega)
    simp
    omega
  have h2 := List.Sublist.countP_le (p := fun x => decide (x < c)) (List.take_sublist (k + 1) L)
  rw [h1, List.length_take] at h2
  omega
theorem countP_hi (L : List Int) (hL : L.Pairwise (· ≤ ·)) (k : Nat) (hk : k < L.length) (c : Int) (h : c < L[k]) : L.length - k ≤ L.countP (fun x => decide (c < x)) := by
  have h1 : (L.drop k).countP (fun x => decide (c < x)) = (L.drop k).length := by
    rw [List.countP_eq_length]
    intro x hx
    obtain ⟨i, hi, rfl⟩ := List.getElem_of_mem hx
    rw [List.length_drop] at hi
    rw [List.getElem_drop]
    have := sorted_le hL k (k + i) (by omega) (by omega)
    simp
    omega
  have h2 := List.Sublist.countP_le (p := fun x => decide (c < x)) (List.drop_sublist k L)
  rw [h1, List.length_drop] at h2
  omega
theorem sound_plain (f : Int) (good bad : List Int) (h0 : 0 < good.length) (hb : bad.length ≤ cutN f (bad ++ good).length) (n : Nat) (hn : good.length = n) :
    ∃ e : Nat, (n : Int) - 1 = (e : Int) ∧ e < n ∧ ∃ a b : Int, (∀ h : 0 < (sortI good).length, (sortI good)[0] = a) ∧ (∀ h : e < (sortI good).length, (sortI good)[e] = b) ∧ a ≤ midI (trimI f (bad ++ good)) ∧ midI (trimI f (bad ++ good)) ≤ b := by
  have hs := sortI_length good
  refine ⟨n - 1, by omega, by omega, (sortI good)[0], (sortI good)[n - 1]'(by omega), fun _ => rfl, fun _ => rfl, ?_⟩
  have hlen : 0 < (bad ++ good).length := by rw [List.length_append]; omega
  refine mid_rng _ _ _ (trimI_pos f _ hlen) fun x hx => ?_
  obtain ⟨i, hi, rfl⟩ := List.getElem_of_mem hx
  have hl := trimI_length f (bad ++ good)
  have hc := cutN_lt f (bad ++ good).length hlen
  have hL := sortI_length (bad ++ good)
  rw [trimI_get]
  have hik : cutN f (bad ++ good).length + i < (sortI (bad ++ good)).length := by omega
  have hbl : ∀ p : Int → Bool, bad.countP p ≤ bad.length := fun p => List.countP_le_length
  constructor
  · refine Int.not_lt.1 fun hlt => ?_
    have h1 := countP_lo _ (sortI_sorted _) _ hik _ hlt
    rw [(sortI_perm (bad ++ good)).countP_eq, List.countP_append] at h1
    have h2 : good.countP (fun x => decide (x < (sortI good)[0])) = 0 := by
      rw [List.countP_eq_zero]
      intro y hy
      obtain ⟨j, hj, rfl⟩ := List.getElem_of_mem ((sortI_perm good).mem_iff.2 hy)
      have := sorted_le (sortI_sorted good) 0 j hj (by omega)
      simp
      omega
    have := hbl (fun x => decide (x < (sortI good)[0]))
    omega
  · refine Int.not_lt.1 fun hlt => ?_
    have h1 := countP_hi _ (sortI_sorted _) _ hik _ hlt
    rw [(sortI_perm (bad ++ good)).countP_eq, List.countP_append] at h1
    have h2 : good.countP (fun x => decide ((sortI good)[n - 1]'(by omega) < x)) = 0 := by
      rw [List.countP_eq_zero]
      intro y hy
      obtain ⟨j, hj, rfl⟩ := List.getElem_of_mem ((sortI_perm good).mem_iff.2 hy)
      have := sorted_le (sortI_sorted good) j (n - 1) (by omega) (by omega)
      simp
      omega
    have := hbl (fun x => decide ((sortI good)[n - 1]'(by omega) < x))
    omega

end Go.Proofs.Ytihfcaconbcdjaa
