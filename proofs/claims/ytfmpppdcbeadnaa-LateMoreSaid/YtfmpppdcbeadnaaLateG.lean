/- The walks of LateUntil and LateMore, and LateMore's plain law. -/
import Derived.Test.YtfmpppdcbeadnaaLateF
namespace Go.Proofs.Ytfmpppdcbeadnaa
open Go.RowKit Go.Sort
set_option maxHeartbeats 4000000
set_option maxRecDepth 100000

theorem lateUntil_walk (n f dmin dmax rho slew rnd win att seen hist fly quota body : Int) (la : Option Addr) (ll lc : Nat) (t : Int) (w : World) :
   Calls Try.prog 5 #[cfg n f dmin dmax rho slew rnd win att seen hist fly quota body la ll lc, .int .i64 t] w (RetV w (.bool true)) := by
  go_enter Try.func5, Try.ntmps5
  go_wp2_with fail
  refine (ours_any _ _ _ _ _ _ _ _ _ _ _ _ _ _ _ _ _ _).mono ?_
  rintro e w1 ⟨v, ⟨b0, b1, b2, b3, b4, b5, b6, b7, b8, b9, b10, b11, b12, b13, rfl, hB⟩, rfl, hbl⟩
  obtain ⟨p, rfl⟩ := regr hbl
  clear hbl
  go_wp2_with fail
  refine wp_region_reg (by kernel_rfl) (by kernel_rfl) ?_
  repeat (first | go_big_quiet_step ((first | (go_at_call 13; exact class_reg (until_any _ _ _ _ _ _ _ _ _ _ _ _ _ _ _ _ hB)) | (go_at_call 14; exact class_reg (runtil_any _ _ _ _ _ _ _ _ _ _ _ _ _ _ _ _ hB)) | (go_at_call 15; exact class_reg (due_any _ _ _ _ _ _ _ _ _ _ _ _ _ _ _ _ hB)) | (go_at_call 16; exact class_reg (rdue_any _ _ _ _ _ _ _ _ _ _ _ _ _ _ _ _ hB)) | (go_at_call 12; exact class_reg (works_any _)))) | quiet_step ((first | (go_at_call 13; exact class_reg (until_any _ _ _ _ _ _ _ _ _ _ _ _ _ _ _ _ hB)) | (go_at_call 14; exact class_reg (runtil_any _ _ _ _ _ _ _ _ _ _ _ _ _ _ _ _ hB)) | (go_at_call 15; exact class_reg (due_any _ _ _ _ _ _ _ _ _ _ _ _ _ _ _ _ hB)) | (go_at_call 16; exact class_reg (rdue_any _ _ _ _ _ _ _ _ _ _ _ _ _ _ _ _ hB)) | (go_at_call 12; exact class_reg (works_any _)))))
  refine wpQuiet_nil ?_
  intro _ hcw1
  obtain ⟨pq, hcw2⟩ := hcw1
  subst hcw2
  go_wp2
  go_ret
  exact ⟨rfl, by (repeat (first | with_reducible exact Below.refl _ _ | with_reducible refine bl_alloc ?_ _ | ((with_reducible refine bl_set ?_ ?_ _); rotate_left; (first | exact Nat.le_refl _ | exact Nat.le_succ_of_le (Nat.le_refl _) | (simp only []; omega))) | with_reducible refine bl_drewN ?_ _ | with_reducible refine bl_drew ?_ | with_reducible refine bl_reg ?_ _))⟩

theorem chk_iff {b0 b3 b1 tol now h t : Int} (hn : 0 ≤ now ∧ now ≤ 1152921504606846976) (ht : 0 ≤ t ∧ t ≤ 1152921504606846976) :
    chkI b0 b3 b1 tol now h t = 0 ↔ 0 ≤ tol ∧ tol ≤ 18300341342965825 ∧ 1 ≤ h ∧ h ≤ b0 ∧ t - now ≤ tol ∧ now - t ≤ lateI b0 b3 b1 h tol := by
  unfold chkI
  rw [okT_t hn.1 hn.2, okT_t ht.1 ht.2, IntWalk.wrap64_in (t - now) (by omega), IntWalk.wrap64_in (now - t) (by omega)]
  constructor
  · intro h
    repeat' split at h
    all_goals first | omega | (simp at *; omega)
  · intro h
    rw [if_neg (by simp; omega), if_neg (by omega), if_neg (by omega), if_neg (by omega)]

theorem more_plain {b0 b1 b3 b7 b10 b11 T now h : Int} (hB : BOk b0 b1 b3 b7 b10 b11) (hT : 0 ≤ T ∧ T ≤ 4294967295) (hn : 0 ≤ now ∧ now ≤ 4294967295) (h0 : chkI b0 b3 b1 b7 now h T = 0) :
    chkI b0 b3 b1 b7 now b0 T = 0 ∧ (∀ back : Int, 0 ≤ back → back ≤ T → T - b7 ≤ back → chkI b0 b3 b1 b7 ((now + back) / 2) h T = 0) ∧ chkI b0 b3 b1 b10 now h T = 0 ∧ now < behI T b11 ∧ now ≤ behI T (lateI b0 b3 b1 b0 b10) := by
  rw [chk_iff (by omega) (by omega)] at h0
  obtain ⟨g1, g2, g3, g4, g5, g6⟩ := h0
  obtain ⟨v1, p1, q1⟩ := late_val hB (h := h) (tol := b7) (by omega) g4 g1 hB.2.2.2.2.2.2.2.1
  obtain ⟨v2, p2, q2⟩ := late_val hB (h := b0) (tol := b7) (by omega) (Int.le_refl _) g1 hB.2.2.2.2.2.2.2.1
  obtain ⟨v3, p3, q3⟩ := late_val hB (h := h) (tol := b10) (by omega) g4 (by have := hB.2.2.2.2.2.2; omega) (Int.le_refl _)
  obtain ⟨v4, p4, q4⟩ := late_val hB (h := b0) (tol := b10) (by omega) (Int.le_refl _) (by have := hB.2.2.2.2.2.2; omega) (Int.le_refl _)
  obtain ⟨d0, d1⟩ := delta_val hB
  obtain ⟨c1, c2, c3, c4, c5, c6, c7, c8, c9, c10⟩ := hB
  have m1 : h * (b3 + b7) ≤ b0 * (b3 + b7) := Int.mul_le_mul_of_nonneg_right g4 (by omega)
  have m2 : h * (b3 + b7) ≤ h * (b3 + b10) := Int.mul_le_mul_of_nonneg_left (by omega) (by omega)
  have m3 : h * (b3 + b10) ≤ b0 * (b3 + b10) := Int.mul_le_mul_of_nonneg_right g4 (by omega)
  have o : okT T = true := okT_t (by omega) (by omega)
  refine ⟨?_, ?_, ?_, ?_, ?_⟩
  · rw [chk_iff (by omega) (by omega)]; omega
  · intro back i1 i2 i3
    rw [chk_iff (by omega) (by omega)]; omega
  · rw [chk_iff (by omega) (by omega)]; omega
  · unfold behI; rw [if_pos o]; split <;> omega
  · unfold behI; rw [if_pos o]; split <;> omega

end Go.Proofs.Ytfmpppdcbeadnaa
