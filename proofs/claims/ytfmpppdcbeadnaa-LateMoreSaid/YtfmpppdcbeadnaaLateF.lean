/- Till when a copy may come, and when a message is delivered: walks; and the plain laws of the numbers. -/
import Derived.Test.YtfmpppdcbeadnaaLateE
namespace Go.Proofs.Ytfmpppdcbeadnaa
open Go.RowKit Go.Sort
set_option maxHeartbeats 4000000
set_option maxRecDepth 100000

/-- A time behind another one by so much. -/
def behI (t b : Int) : Int := if okT t = true then (if t + b ≤ 1152921504606846976 then t + b else 1152921504606846976) else 0

theorem behind_any (t b : Int) (w : World) (h0 : 0 ≤ b) (h1 : b ≤ 4611686018427387904) : Calls Try.prog 29 #[.int .i64 t, .int .i64 b] w (fun e w' => e = .returned (.int .i64 (behI t b)) ∧ w = w') := by
  cases ho : okT t
  · go_enter Try.func29, Try.ntmps29
    go_wp2_with (first | (go_at_call 25; refine (time_any _ _).mono ?_; rintro e w' ⟨rfl, rfl⟩))
    go_ret
    exact ⟨ret_int (by simp [behI, ho]), rfl⟩
  · have hb := of_okT ho
    obtain ⟨hb1, hb2⟩ := hb
    by_cases hle : t + b ≤ 1152921504606846976
    · go_enter Try.func29, Try.ntmps29
      go_wp2_with (first | (go_at_call 25; refine (time_any _ _).mono ?_; rintro e w' ⟨rfl, rfl⟩))
      go_ret
      exact ⟨ret_int (by simp [behI, ho]; omega), rfl⟩
    · go_enter Try.func29, Try.ntmps29
      go_wp2_with (first | (go_at_call 25; refine (time_any _ _).mono ?_; rintro e w' ⟨rfl, rfl⟩))
      go_ret
      exact ⟨ret_int (by simp [behI, ho]; omega), rfl⟩

/-- A number, no less than 0 and no more than the greatest time. -/
def clampI (x : Int) : Int := if x < 0 then 0 else if 1152921504606846976 < x then 1152921504606846976 else x
theorem clamp_any (x : Int) (w : World) : Calls Try.prog 30 #[.int .i64 x, .int .i64 0, .int .i64 1152921504606846976] w (fun e w' => e = .returned (.int .i64 (clampI x)) ∧ w = w') := by
  go_enter Try.func30, Try.ntmps30
  go_wp2
  all_goals (go_ret; exact ⟨ret_int (by unfold clampI; first | rw [if_pos (by omega)] | rw [if_neg (by omega), if_pos (by omega)] | rw [if_neg (by omega), if_neg (by omega)]), rfl⟩)

theorem late_val {b0 b1 b3 b7 b10 b11 h tol : Int} (hB : BOk b0 b1 b3 b7 b10 b11) (h0 : 0 ≤ h) (h1 : h ≤ b0) (t0 : 0 ≤ tol) (t1 : tol ≤ b10) :
    lateI b0 b3 b1 h tol = h * (b3 + tol) + b1 ∧ 0 ≤ h * (b3 + tol) ∧ h * (b3 + tol) ≤ 1134000008064000 * 1000 := by
  obtain ⟨c1, c2, c3, c4, c5, c6, c7, c8, c9, c10⟩ := hB
  have m0 : 0 ≤ h * (b3 + tol) := Int.mul_nonneg h0 (by omega)
  have m1 : h * (b3 + tol) ≤ 63 * 18000000000128000 := Int.mul_le_mul (by omega) (by omega) (by omega) (by omega)
  refine ⟨?_, m0, by omega⟩
  unfold lateI
  rw [if_neg (by omega), IntWalk.wrap64_in (b3 + tol) (by omega), IntWalk.wrap64_in (h * (b3 + tol)) (by omega), IntWalk.wrap64_in _ (by omega)]

theorem delta_val {b0 b1 b3 b7 b10 b11 : Int} (hB : BOk b0 b1 b3 b7 b10 b11) : 0 ≤ b11 ∧ b11 ≤ 1200000000000000000 := by
  have hv := late_val hB (h := b0) (tol := b7) (by have := hB.1; omega) (Int.le_refl _) hB.2.2.2.2.2.2.1 hB.2.2.2.2.2.2.2.1
  obtain ⟨c1, c2, c3, c4, c5, c6, c7, c8, c9, c10⟩ := hB
  omega

theorem until_any (b0 b1 b2 b3 b4 b5 b6 b7 b8 b9 b10 b11 b12 b13 t : Int) (w : World) (hB : BOk b0 b1 b3 b7 b10 b11) :
    Calls Try.prog 13 #[bnd b0 b1 b2 b3 b4 b5 b6 b7 b8 b9 b10 b11 b12 b13, .int .i64 t] w (RetV w (.int .i64 (behI t (lateI b0 b3 b1 b0 b10)))) := by
  have hv := late_val hB (h := b0) (tol := b10) (by have := hB.1; omega) (Int.le_refl _) (by have := hB.2.2.2.2.2.2; omega) (Int.le_refl _)
  obtain ⟨c1, c2, c3, c4, c5, c6, c7, c8, c9, c10⟩ := hB
  have l0 : 0 ≤ lateI b0 b3 b1 b0 b10 := by omega
  have l1 : lateI b0 b3 b1 b0 b10 ≤ 4611686018427387904 := by omega
  clear hv c10
  go_enter Try.func13, Try.ntmps13
  go_wp2_with (first | (go_at_call 26; refine (late_any _ _ _ _ _ _ _ _ _ _ _ _ _ _ _ _ _ (by omega) (by omega)).mono ?_; rintro e w1 ⟨rfl, hb⟩; obtain ⟨p, rfl⟩ := regr hb; clear hb) | (go_at_call 29; refine (behind_any _ _ _ l0 l1).mono ?_; rintro e w' ⟨rfl, rfl⟩))
  go_ret
  exact ⟨rfl, by (repeat (first | with_reducible exact Below.refl _ _ | with_reducible refine bl_alloc ?_ _ | ((with_reducible refine bl_set ?_ ?_ _); rotate_left; (first | exact Nat.le_refl _ | exact Nat.le_succ_of_le (Nat.le_refl _) | (simp only []; omega))) | with_reducible refine bl_drewN ?_ _ | with_reducible refine bl_drew ?_ | with_reducible refine bl_reg ?_ _))⟩

theorem runtil_any (b0 b1 b2 b3 b4 b5 b6 b7 b8 b9 b10 b11 b12 b13 t : Int) (w : World) (hB : BOk b0 b1 b3 b7 b10 b11) :
    Calls Try.prog 14 #[bnd b0 b1 b2 b3 b4 b5 b6 b7 b8 b9 b10 b11 b12 b13, .int .i64 t] w (RetV w (.int .i64 (behI t (lateI b0 b3 b1 b0 b10)))) := by
  have hv := late_val hB (h := b0) (tol := b10) (by have := hB.1; omega) (Int.le_refl _) (by have := hB.2.2.2.2.2.2; omega) (Int.le_refl _)
  obtain ⟨c1, c2, c3, c4, c5, c6, c7, c8, c9, c10⟩ := hB
  have l0 : 0 ≤ lateI b0 b3 b1 b0 b10 := by omega
  have l1 : lateI b0 b3 b1 b0 b10 ≤ 4611686018427387904 := by omega
  clear hv c10
  cases ho : okT t
  · go_enter Try.func14, Try.ntmps14
    go_wp2_with (first | (go_at_call 27; refine (rtime_any _ _).mono ?_; rintro e w' ⟨rfl, rfl⟩))
    go_ret
    exact ⟨ret_int (by simp [behI, ho]), by (repeat (first | with_reducible exact Below.refl _ _ | with_reducible refine bl_alloc ?_ _ | ((with_reducible refine bl_set ?_ ?_ _); rotate_left; (first | exact Nat.le_refl _ | exact Nat.le_succ_of_le (Nat.le_refl _) | (simp only []; omega))) | with_reducible refine bl_drewN ?_ _ | with_reducible refine bl_drew ?_ | with_reducible refine bl_reg ?_ _))⟩
  · have hb := of_okT ho
    obtain ⟨hb1, hb2⟩ := hb
    go_enter Try.func14, Try.ntmps14
    go_wp2_with (first | (go_at_call 27; refine (rtime_any _ _).mono ?_; rintro e w' ⟨rfl, rfl⟩) | (go_at_call 28; refine (rlate_any _ _ _ _ _ _ _ _ _ _ _ _ _ _ _ _ _).mono ?_; rintro e w1 ⟨rfl, hb⟩; obtain ⟨p, rfl⟩ := regr hb; clear hb) | (go_at_call 30; refine (clamp_any _ _).mono ?_; rintro e w' ⟨rfl, rfl⟩))
    all_goals (go_ret; refine ⟨ret_int ?_, by (repeat (first | with_reducible exact Below.refl _ _ | with_reducible refine bl_alloc ?_ _ | ((with_reducible refine bl_set ?_ ?_ _); rotate_left; (first | exact Nat.le_refl _ | exact Nat.le_succ_of_le (Nat.le_refl _) | (simp only []; omega))) | with_reducible refine bl_drewN ?_ _ | with_reducible refine bl_drew ?_ | with_reducible refine bl_reg ?_ _))⟩)
    all_goals (unfold behI clampI; rw [if_pos ho]; repeat' split)
    all_goals omega

theorem due_any (b0 b1 b2 b3 b4 b5 b6 b7 b8 b9 b10 b11 b12 b13 t : Int) (w : World) (hB : BOk b0 b1 b3 b7 b10 b11) :
    Calls Try.prog 15 #[bnd b0 b1 b2 b3 b4 b5 b6 b7 b8 b9 b10 b11 b12 b13, .int .i64 t] w (RetV w (.int .i64 (behI t b11))) := by
  obtain ⟨l0, l1⟩ := delta_val hB
  clear hB
  go_enter Try.func15, Try.ntmps15
  go_wp2_with (first | (go_at_call 29; refine (behind_any _ _ _ l0 (by omega)).mono ?_; rintro e w' ⟨rfl, rfl⟩))
  go_ret
  exact ⟨rfl, by (repeat (first | with_reducible exact Below.refl _ _ | with_reducible refine bl_alloc ?_ _ | ((with_reducible refine bl_set ?_ ?_ _); rotate_left; (first | exact Nat.le_refl _ | exact Nat.le_succ_of_le (Nat.le_refl _) | (simp only []; omega))) | with_reducible refine bl_drewN ?_ _ | with_reducible refine bl_drew ?_ | with_reducible refine bl_reg ?_ _))⟩

theorem rdue_any (b0 b1 b2 b3 b4 b5 b6 b7 b8 b9 b10 b11 b12 b13 t : Int) (w : World) (hB : BOk b0 b1 b3 b7 b10 b11) :
    Calls Try.prog 16 #[bnd b0 b1 b2 b3 b4 b5 b6 b7 b8 b9 b10 b11 b12 b13, .int .i64 t] w (RetV w (.int .i64 (behI t b11))) := by
  obtain ⟨l0, l1⟩ := delta_val hB
  clear hB
  cases ho : okT t
  · go_enter Try.func16, Try.ntmps16
    go_wp2_with (first | (go_at_call 27; refine (rtime_any _ _).mono ?_; rintro e w' ⟨rfl, rfl⟩))
    go_ret
    exact ⟨ret_int (by simp [behI, ho]), by (repeat (first | with_reducible exact Below.refl _ _ | with_reducible refine bl_alloc ?_ _ | ((with_reducible refine bl_set ?_ ?_ _); rotate_left; (first | exact Nat.le_refl _ | exact Nat.le_succ_of_le (Nat.le_refl _) | (simp only []; omega))) | with_reducible refine bl_drewN ?_ _ | with_reducible refine bl_drew ?_ | with_reducible refine bl_reg ?_ _))⟩
  · have hb := of_okT ho
    obtain ⟨hb1, hb2⟩ := hb
    go_enter Try.func16, Try.ntmps16
    go_wp2_with (first | (go_at_call 27; refine (rtime_any _ _).mono ?_; rintro e w' ⟨rfl, rfl⟩) | (go_at_call 30; refine (clamp_any _ _).mono ?_; rintro e w' ⟨rfl, rfl⟩))
    all_goals (go_ret; refine ⟨ret_int ?_, by (repeat (first | with_reducible exact Below.refl _ _ | with_reducible refine bl_alloc ?_ _ | ((with_reducible refine bl_set ?_ ?_ _); rotate_left; (first | exact Nat.le_refl _ | exact Nat.le_succ_of_le (Nat.le_refl _) | (simp only []; omega))) | with_reducible refine bl_drewN ?_ _ | with_reducible refine bl_drew ?_ | with_reducible refine bl_reg ?_ _))⟩)
    all_goals (unfold behI clampI; rw [if_pos ho]; repeat' split)
    all_goals omega
end Go.Proofs.Ytfmpppdcbeadnaa
