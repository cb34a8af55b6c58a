/- LateOver's plain law and its walk. -/
import Derived.Test.YtfmpppdcbeadnaaLateG
namespace Go.Proofs.Ytfmpppdcbeadnaa
open Go.RowKit Go.Sort
set_option maxHeartbeats 4000000
set_option maxRecDepth 100000

theorem over_plain {b0 b1 b3 b7 b10 b11 T m0 h : Int} (hB : BOk b0 b1 b3 b7 b10 b11) (hT : 0 ≤ T ∧ T ≤ 4294967295) (hm0 : 0 ≤ m0 ∧ m0 ≤ 65535) (hh : 1 ≤ h ∧ h ≤ b0) :
    (0 ≤ behI T (lateI b0 b3 b1 b0 b10) ∧ behI T (lateI b0 b3 b1 b0 b10) ≤ 1152921504606846976) ∧
    chkI b0 b3 b1 b10 (behI T (lateI b0 b3 b1 b0 b10) + 1 + m0) h T = 11 ∧ chkI b0 b3 b1 b7 (behI T (lateI b0 b3 b1 b0 b10) + 1 + m0) h T = 11 := by
  have e7 : 0 ≤ b7 ∧ b7 ≤ b10 := ⟨hB.2.2.2.2.2.2.1, hB.2.2.2.2.2.2.2.1⟩
  obtain ⟨v1, p1, q1⟩ := late_val hB (h := h) (tol := b7) (by omega) hh.2 e7.1 e7.2
  obtain ⟨v3, p3, q3⟩ := late_val hB (h := h) (tol := b10) (by omega) hh.2 (by omega) (Int.le_refl _)
  obtain ⟨v4, p4, q4⟩ := late_val hB (h := b0) (tol := b10) (by omega) (Int.le_refl _) (by omega) (Int.le_refl _)
  obtain ⟨c1, c2, c3, c4, c5, c6, c7, c8, c9, c10⟩ := hB
  have m2 : h * (b3 + b7) ≤ h * (b3 + b10) := Int.mul_le_mul_of_nonneg_left (by omega) (by omega)
  have m3 : h * (b3 + b10) ≤ b0 * (b3 + b10) := Int.mul_le_mul_of_nonneg_right hh.2 (by omega)
  have o : okT T = true := okT_t (by omega) (by omega)
  have u : behI T (lateI b0 b3 b1 b0 b10) = T + lateI b0 b3 b1 b0 b10 := by unfold behI; rw [if_pos o, if_pos (by omega)]
  have o2 : okT (T + lateI b0 b3 b1 b0 b10 + 1 + m0) = true := okT_t (by omega) (by omega)
  rw [u]
  refine ⟨by omega, ?_, ?_⟩
  · unfold chkI
    rw [o, o2, IntWalk.wrap64_in (T - _) (by omega), IntWalk.wrap64_in (_ - T) (by omega), if_neg (by simp; omega), if_neg (by omega), if_neg (by omega), if_pos (by omega)]
  · unfold chkI
    rw [o, o2, IntWalk.wrap64_in (T - _) (by omega), IntWalk.wrap64_in (_ - T) (by omega), if_neg (by simp; omega), if_neg (by omega), if_neg (by omega), if_pos (by omega)]

theorem lateOver_walk (n f dmin dmax rho slew rnd win att seen hist fly quota body : Int) (la : Option Addr) (ll lc : Nat) (T m0 m1 : Int) (w : World)
    (hT : 0 ≤ T ∧ T ≤ 4294967295) (hm0 : 0 ≤ m0 ∧ m0 ≤ 65535) (hm1 : 0 ≤ m1 ∧ m1 ≤ 65535) :
   Calls Try.prog 4 #[cfg n f dmin dmax rho slew rnd win att seen hist fly quota body la ll lc, .int .u32 T, .agg #[.int .u16 m0, .int .u16 m1]] w (RetV w (.bool true)) := by
  obtain ⟨hT1, hT2⟩ := hT; obtain ⟨hm01, hm02⟩ := hm0; obtain ⟨hm11, hm12⟩ := hm1
  go_enter Try.func4, Try.ntmps4
  go_wp2_with fail
  refine (ours_any _ _ _ _ _ _ _ _ _ _ _ _ _ _ _ _ _ _).mono ?_
  rintro e w1 ⟨v, ⟨b0, b1, b2, b3, b4, b5, b6, b7, b8, b9, b10, b11, b12, b13, rfl, hB⟩, rfl, hbl⟩
  obtain ⟨p, rfl⟩ := regr hbl
  clear hbl
  have c1 : 1 ≤ b0 := hB.1
  have c2 : b0 ≤ 63 := hB.2.1
  have r0 : 0 ≤ m1 % b0 := Int.emod_nonneg _ (by omega)
  have r1 : m1 % b0 < b0 := Int.emod_lt_of_pos _ (by omega)
  obtain ⟨⟨u0, u1⟩, k1, k2⟩ := over_plain hB ⟨hT1, hT2⟩ ⟨hm01, hm02⟩ (h := 1 + m1 % b0) ⟨by omega, by omega⟩
  have hz : (b0 == 0) = false := by simp; omega
  go_wp2_with fail
  obtain ⟨U, eU⟩ : ∃ U, behI T (lateI b0 b3 b1 b0 b10) = U := ⟨_, rfl⟩
  rw [eU] at u0 u1 k1 k2
  have e1 : IntKind.i64.wrap (U + 1) = U + 1 := IntWalk.i64_in _ (by omega)
  have e2 : IntKind.i64.wrap (U + 1 + m0) = U + 1 + m0 := IntWalk.i64_in _ (by omega)
  have e3 : IntKind.i64.wrap T = T := IntWalk.i64_in _ (by omega)
  have e4 : IntKind.i64.wrap m0 = m0 := IntWalk.i64_in _ (by omega)
  refine wp_region_reg (by kernel_rfl) (by kernel_rfl) ?_
  repeat (first | go_big_quiet_step ((first | (go_at_call 13; exact class_reg (until_any _ _ _ _ _ _ _ _ _ _ _ _ _ _ _ _ hB)))) | quiet_step ((first | (go_at_call 13; exact class_reg (until_any _ _ _ _ _ _ _ _ _ _ _ _ _ _ _ _ hB)))))
  refine wpQuiet_nil ?_
  intro _ hcw1
  obtain ⟨pq, hcw2⟩ := hcw1
  subst hcw2
  clear e1 e2 e3 e4
  go_wp2_with (first | (go_at_call 10; refine (check_any _ _ _ _ _ _ _ _ _ _ _ _ _ _ _ _ _ _ _ _ _ _ _ _ _ _ _ _ _ _ _).mono ?_; rintro e w1 ⟨rfl, hb⟩; obtain ⟨p3, rfl⟩ := regr hb; clear hb) | (go_at_call 12; refine (works_any _).mono ?_; rintro e w1 ⟨rfl, hb⟩; obtain ⟨p3, rfl⟩ := regr hb; clear hb))
  go_ret
  exact ⟨rfl, by (repeat (first | with_reducible exact Below.refl _ _ | with_reducible refine bl_alloc ?_ _ | ((with_reducible refine bl_set ?_ ?_ _); rotate_left; (first | exact Nat.le_refl _ | exact Nat.le_succ_of_le (Nat.le_refl _) | (simp only []; omega))) | with_reducible refine bl_drewN ?_ _ | with_reducible refine bl_drew ?_ | with_reducible refine bl_reg ?_ _))⟩
end Go.Proofs.Ytfmpppdcbeadnaa
