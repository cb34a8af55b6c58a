/- Small contracts of the clocks' package: a number of a list, by how much a reading is wrong, all nodes below a number. -/
import Derived.Test.YthdcmchjlpkkaaaDoorMndP
import Derived.Test.YthdcmchjlpkkaaaDoorMndN
namespace Go.Proofs.YthdcmchjlpkkaaaDoor.Tr
open Go.RowKit Go.Sort
set_option maxHeartbeats 4000000
set_option maxRecDepth 100000
theorem IHas.at {w : World} {v : Value} {l : List Int} {n : Nat} (h : IHas w v l) (hl : l.length = n) (h0 : 0 < n) : ∃ g o cap, v = .slice (some ⟨g, o, none⟩) n cap ∧ n ≤ cap ∧ g < w.heap.size ∧ ∀ i, (hi : i < l.length) → w.cell? ⟨g, o + i, none⟩ = some (.int .i64 l[i]) := by
  subst hl
  rcases h with ⟨rfl, _⟩ | h
  · simp at h0
  · exact h
theorem IHas.len {w : World} {v : Value} {l : List Int} {n : Nat} (h : IHas w v l) (hl : l.length = n) : ∃ a cap, v = .slice a n cap := by
  subst hl
  rcases h with ⟨rfl, a, cap, rfl⟩ | ⟨g, o, cap, h, _⟩
  · exact ⟨a, cap, rfl⟩
  · exact ⟨_, cap, h⟩
theorem cl_min {x r a : Int} (er : a = r) (hv : a = clL x) : min (max x (-1099511627776)) 1099511627776 = r := by
  rw [← er, hv]
  unfold clL
  repeat' split
  all_goals omega
theorem at_any {w : World} {v : Value} {l : List Int} (i : Nat) (h : IHas w v l) :
    Calls Tryd.prog 18 #[v, .int .i64 (i : Int)] w (fun e w' => e = .returned (.int .i64 (atI l i)) ∧ w = w') := by
  obtain ⟨n, en⟩ : ∃ n, l.length = n := ⟨_, rfl⟩
  obtain ⟨r, er⟩ : ∃ r, atI l i = r := ⟨_, rfl⟩
  rw [er]
  by_cases hi : i < n
  · obtain ⟨g, o, cap, rfl, hcap, hg, hc⟩ := h.at en (by omega)
    have k0 := hc i (by omega)
    obtain ⟨x, ex⟩ : ∃ x, l[i] = x := ⟨_, rfl⟩
    rw [ex] at k0
    have hv : atI l i = clL x := by unfold atI; rw [if_pos (by omega), List.getD_eq_getElem?_getD, List.getElem?_eq_getElem (by omega), ← ex]; rfl
    have hd1 : decide ((n : Int) ≤ (i : Int)) = false := decide_eq_false (by omega)
    have hd2 : (n ≤ i) = False := eq_false (by omega)
    have hq : (i : Int) < (n : Int) := Int.ofNat_lt.2 hi
    have hr : min (max x (-1099511627776)) 1099511627776 = r := cl_min er hv
    clear hc hv er en ex h
    go_enter Tryd.func18, Tryd.ntmps18
    go_wp2_with fail
    go_ret
    exact ⟨ret_int rfl, rfl⟩
  · obtain ⟨a, cap, rfl⟩ := h.len en
    have hr : r = 0 := by rw [← er]; unfold atI; rw [if_neg (by omega)]
    subst hr
    have hd1 : decide ((n : Int) ≤ (i : Int)) = true := decide_eq_true (by omega)
    have hd2 : (n ≤ i) = True := eq_true (by omega)
    clear h er en
    go_enter Tryd.func18, Tryd.ntmps18
    go_wp2_with fail
    go_ret
    exact ⟨rfl, rfl⟩
/-- A slice, and what it holds. -/
structure SL where
  a : Option Addr
  n : Nat
  c : Nat
  l : List Int
abbrev SL.val (r : SL) : Value := .slice r.a r.n r.c
abbrev sv (r : SL) : List Value := [r.val]
/-- A slice of slices of numbers. -/
def EHas (w : World) (v : Value) (E : List SL) : Prop := GRows sv 1 w v E ∧ ∀ r ∈ E, IHas w r.val r.l
abbrev errsOf (E : List SL) : List (List Int) := E.map (·.l)
theorem EHas.grows {w w' : World} {v : Value} {E : List SL} (h : EHas w v E) (hg : Grows w w') : EHas w' v E := ⟨h.1.grows hg, fun r hr => (h.2 r hr).grows hg⟩
abbrev TTN : TypeId := 33
theorem err_any {w : World} {v u : Value} {E : List SL} (s : Nat) (p q : Nat) (h : EHas w v E) :
    Calls Tryd.prog 19 #[.agg #[.int .u64 (s : Int), v, u], .int .i64 (p : Int), .int .i64 (q : Int)] w (RetV w (.int .i64 (errI (errsOf E) p q))) := by
  obtain ⟨n, en⟩ : ∃ n, E.length = n := ⟨_, rfl⟩
  by_cases hp : p < n
  · obtain ⟨g, o, cap, rfl, hcap, hg, hc⟩ := h.1.form en (by omega)
    have hpl : p < E.length := by omega
    have k0 := hc p hpl 0 (by decide)
    obtain ⟨x, ex⟩ : ∃ x, E[p] = x := ⟨_, rfl⟩
    rw [ex] at k0
    have k1 : w.cell? ⟨g, o + p, none⟩ = some (.slice x.a x.n x.c) := by simpa using k0
    have hx := h.2 x (by rw [← ex]; exact List.getElem_mem hpl)
    have hv : errI (errsOf E) p q = atI x.l q := by
      unfold errI
      rw [List.getD_eq_getElem?_getD, List.getElem?_map, List.getElem?_eq_getElem hpl, ex]
      rfl
    rw [hv]
    have HA := Lib.hid (fun W' (hg : Grows w W') => at_any q (hx.grows hg))
    have hd1 : decide ((n : Int) ≤ (p : Int)) = false := decide_eq_false (by omega)
    have hd2 : (n ≤ p) = False := eq_false (by omega)
    have hq : (p : Int) < (n : Int) := Int.ofNat_lt.2 hp
    obtain ⟨r, er⟩ : ∃ r, atI x.l q = r := ⟨_, rfl⟩
    rw [er] at HA ⊢
    clear hc hpl k0 ex hx hv er h en
    go_enter Tryd.func19, Tryd.ntmps19
    go_wp2_with fail
    refine (HA.out _ (bl_alloc (Below.refl _ _) _)).mono ?_
    rintro e w1 ⟨rfl, rfl⟩
    go_wp2_with fail
    go_ret
    exact ⟨rfl, by (repeat (first | with_reducible exact Below.refl _ _ | with_reducible refine bl_alloc ?_ _ | ((with_reducible refine bl_set ?_ ?_ _); rotate_left; (first | exact Nat.le_refl _ | exact Nat.le_succ_of_le (Nat.le_refl _) | (simp only []; omega))) | with_reducible refine bl_drewN ?_ _ | with_reducible refine bl_drew ?_ | with_reducible refine bl_reg ?_ _))⟩
  · obtain ⟨a, cap, rfl⟩ := h.1.len en
    have hv : errI (errsOf E) p q = 0 := by
      unfold errI
      rw [List.getD_eq_getElem?_getD, List.getElem?_eq_none (by simp; omega)]
      rfl
    rw [hv]
    have hd1 : decide ((n : Int) ≤ (p : Int)) = true := decide_eq_true (by omega)
    have hd2 : (n ≤ p) = True := eq_true (by omega)
    clear h hv en
    go_enter Tryd.func19, Tryd.ntmps19
    go_wp2_with fail
    go_ret
    exact ⟨rfl, by (repeat (first | with_reducible exact Below.refl _ _ | with_reducible refine bl_alloc ?_ _ | ((with_reducible refine bl_set ?_ ?_ _); rotate_left; (first | exact Nat.le_refl _ | exact Nat.le_succ_of_le (Nat.le_refl _) | (simp only []; omega))) | with_reducible refine bl_drewN ?_ _ | with_reducible refine bl_drew ?_ | with_reducible refine bl_reg ?_ _))⟩
/-- The set of all nodes below a number. -/
def allN (n : Nat) : Nat := if 64 ≤ n then 18446744073709551615 else 2 ^ n - 1
theorem allN_lt (n : Nat) : allN n < 18446744073709551616 := by
  unfold allN
  split
  · omega
  · have : 2 ^ n ≤ 2 ^ 63 := Nat.pow_le_pow_right (by omega) (by omega)
    omega
theorem allN_bit (n i : Nat) (hi : i < 64) : (allN n).testBit i = decide (i < n) := by
  unfold allN
  split
  · rw [show (18446744073709551615 : Nat) = 2 ^ 64 - 1 by decide, Nat.testBit_two_pow_sub_one]
    simp; omega
  · rw [Nat.testBit_two_pow_sub_one]
theorem nall_any (n : Nat) (w : World) : Calls Tryd.prog 15 #[.int .i64 (n : Int)] w (fun e w' => e = .returned (.int .u64 ((allN n : Nat) : Int)) ∧ w = w') := by
  by_cases h : 64 ≤ n
  · have hd1 : decide ((64 : Int) ≤ (n : Int)) = true := decide_eq_true (by omega)
    have hv : allN n = 18446744073709551615 := by unfold allN; rw [if_pos h]
    rw [hv]
    go_enter Tryd.func15, Tryd.ntmps15
    go_wp2_with fail
    go_ret
    exact ⟨rfl, rfl⟩
  · have hv : allN n = 2 ^ n - 1 := by unfold allN; rw [if_neg h]
    have hd1 : decide ((64 : Int) ≤ (n : Int)) = false := decide_eq_false (by omega)
    by_cases h0 : n < 1
    · obtain rfl : n = 0 := by omega
      rw [hv]
      go_enter Tryd.func15, Tryd.ntmps15
      go_wp2_with fail
      go_ret
      exact ⟨rfl, rfl⟩
    · have hd2 : decide ((n : Int) < 1) = false := decide_eq_false (by omega)
      have hb : bitN (n : Int) = 2 ^ n := by unfold bitN; rw [if_pos (by omega)]; simp
      have hp : 2 ^ n < 18446744073709551616 := by rw [← hb]; exact bitN_lt _
      have hpp : 0 < 2 ^ n := Nat.pow_pos (by omega)
      have HB := Lib.hid (bit_any (n : Int) w)
      rw [hb] at HB
      have hw : IntKind.u64.wrap (((2 ^ n : Nat) : Int) - 1) = ((2 ^ n - 1 : Nat) : Int) := by rw [IntKind.wrap_u64]; omega
      rw [hv]
      obtain ⟨P, eP⟩ : ∃ P, 2 ^ n = P := ⟨_, rfl⟩
      obtain ⟨Q, eQ⟩ : ∃ Q, P - 1 = Q := ⟨_, rfl⟩
      rw [eP] at hw HB
      rw [eP, eQ]
      rw [eQ] at hw
      clear hp hpp hb hv eP eQ
      go_enter Tryd.func15, Tryd.ntmps15
      go_wp2_with fail
      refine (HB.out).mono ?_
      rintro e w1 ⟨rfl, rfl⟩
      go_wp2_with fail
      go_ret
      exact ⟨by first | rfl | (rw [hw]), rfl⟩
end Go.Proofs.YthdcmchjlpkkaaaDoor.Tr
