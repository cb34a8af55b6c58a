/- A packet that went one hop more; how a relay hands on. -/
import Derived.Test.YtgjieoljfcfacaaDoorRelC
import Derived.Deep.RegionHeld3
namespace Go.Proofs.YtgjieoljfcfacaaDoor
open Go.RowKit Go.Sort
set_option maxHeartbeats 4000000
set_option maxRecDepth 100000
/-- May a packet go one hop more? -/
def nextB (x : PW) : Bool := floodB x.kd && hopsB x.hp && decide (x.hp ≠ 63)
abbrev PW.hop (x : PW) : PW := { x with hp := x.hp + 1 }
def nextP (x : PW) : PW := if nextB x = true then x.hop else pz
theorem next_any (x : PW) (w : World) : Calls Tryd.prog 41 #[x.val] w (RetV w (.tuple #[(nextP x).val, .bool (nextB x)])) := by
  have HF := Lib.hid (fun W => flood_any x.kd W)
  have HH := Lib.hid (fun W => hops_any x.hp W)
  have hw : x.hp ≠ 63 → hopsB x.hp = true → wrap64 (x.hp + 1) = x.hp + 1 := fun h1 h2 => by
    simp only [hopsB, decide_eq_true_eq] at h2
    unfold wrap64; omega
  have HW := Lib.hid hw
  clear hw
  cases hf : floodB x.kd with
  | false =>
    have e1 : nextB x = false := by simp [nextB, hf]
    have e2 : nextP x = pz := by simp [nextP, e1]
    rw [e1, e2]
    rw [hf] at HF
    simp only [PW.val, PW.cells, PW.body]
    go_enter Tryd.func41, Tryd.ntmps41
    go_wp2_with (first | (go_at_call 36; refine (HF.out _).mono ?_; rintro e w' ⟨rfl, rfl⟩))
    refine bodyPost_ret (v := _) (by simp [results, Tryd.results41, go_sem]; rfl) rfl ?_
    exact ⟨rfl, by show Below w.heap.size w _; (repeat (first | with_reducible exact Below.refl _ _ | with_reducible refine bl_alloc ?_ _ | ((with_reducible refine bl_set ?_ ?_ _); rotate_left; (first | exact Nat.le_refl _ | exact Nat.le_succ_of_le (Nat.le_refl _) | (simp only []; omega))) | with_reducible refine bl_drewN ?_ _ | with_reducible refine bl_drew ?_ | with_reducible refine bl_reg ?_ _))⟩
  | true =>
    rw [hf] at HF
    cases hh : hopsB x.hp with
    | false =>
      have e1 : nextB x = false := by simp [nextB, hh]
      have e2 : nextP x = pz := by simp [nextP, e1]
      rw [e1, e2]
      rw [hh] at HH
      simp only [PW.val, PW.cells, PW.body]
      go_enter Tryd.func41, Tryd.ntmps41
      go_wp2_with (first | (go_at_call 36; refine (HF.out _).mono ?_; rintro e w' ⟨rfl, rfl⟩) | (go_at_call 61; refine (HH.out _).mono ?_; rintro e w' ⟨rfl, rfl⟩))
      refine bodyPost_ret (v := _) (by simp [results, Tryd.results41, go_sem]; rfl) rfl ?_
      exact ⟨rfl, by show Below w.heap.size w _; (repeat (first | with_reducible exact Below.refl _ _ | with_reducible refine bl_alloc ?_ _ | ((with_reducible refine bl_set ?_ ?_ _); rotate_left; (first | exact Nat.le_refl _ | exact Nat.le_succ_of_le (Nat.le_refl _) | (simp only []; omega))) | with_reducible refine bl_drewN ?_ _ | with_reducible refine bl_drew ?_ | with_reducible refine bl_reg ?_ _))⟩
    | true =>
      rw [hh] at HH
      by_cases h6 : x.hp = 63
      · have e1 : nextB x = false := by simp [nextB, h6]
        have e2 : nextP x = pz := by simp [nextP, e1]
        have e3 : (x.hp == 63) = true := by simp [h6]
        rw [e1, e2]
        clear h6 HW e1 e2
        simp only [PW.val, PW.cells, PW.body]
        go_enter Tryd.func41, Tryd.ntmps41
        go_wp2_with (first | (go_at_call 36; refine (HF.out _).mono ?_; rintro e w' ⟨rfl, rfl⟩) | (go_at_call 61; refine (HH.out _).mono ?_; rintro e w' ⟨rfl, rfl⟩))
        refine bodyPost_ret (v := _) (by simp [results, Tryd.results41, go_sem]; rfl) rfl ?_
        exact ⟨rfl, by show Below w.heap.size w _; (repeat (first | with_reducible exact Below.refl _ _ | with_reducible refine bl_alloc ?_ _ | ((with_reducible refine bl_set ?_ ?_ _); rotate_left; (first | exact Nat.le_refl _ | exact Nat.le_succ_of_le (Nat.le_refl _) | (simp only []; omega))) | with_reducible refine bl_drewN ?_ _ | with_reducible refine bl_drew ?_ | with_reducible refine bl_reg ?_ _))⟩
      · have e1 : nextB x = true := by simp [nextB, hf, hh, h6]
        have e2 : nextP x = x.hop := by simp [nextP, e1]
        have e3 : (x.hp == 63) = false := by simp [h6]
        have e4 := HW.out h6 hh
        rw [e1, e2]
        simp only [PW.val, PW.cells, PW.body, PW.hop]
        go_enter Tryd.func41, Tryd.ntmps41
        go_wp2_with (first | (go_at_call 36; refine (HF.out _).mono ?_; rintro e w' ⟨rfl, rfl⟩) | (go_at_call 61; refine (HH.out _).mono ?_; rintro e w' ⟨rfl, rfl⟩))
        refine bodyPost_ret (v := _) (by simp [results, Tryd.results41, go_sem]; rfl) rfl ?_
        exact ⟨rfl, by show Below w.heap.size w _; (repeat (first | with_reducible exact Below.refl _ _ | with_reducible refine bl_alloc ?_ _ | ((with_reducible refine bl_set ?_ ?_ _); rotate_left; (first | exact Nat.le_refl _ | exact Nat.le_succ_of_le (Nat.le_refl _) | (simp only []; omega))) | with_reducible refine bl_drewN ?_ _ | with_reducible refine bl_drew ?_ | with_reducible refine bl_reg ?_ _))⟩
end Go.Proofs.YtgjieoljfcfacaaDoor
