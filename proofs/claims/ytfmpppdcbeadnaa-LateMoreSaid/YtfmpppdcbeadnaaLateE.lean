/- The chapter's example, and the walk of the statement LateChecks. -/
import Derived.Test.YtfmpppdcbeadnaaLateD
namespace Go.Proofs.Ytfmpppdcbeadnaa
open Go.RowKit Go.Sort
set_option maxHeartbeats 4000000
set_option maxRecDepth 100000

theorem works_any (w : World) : Calls Try.prog 12 #[] w (RetV w (.bool true)) := by
  have k1 : chkI 2 100 10 5 995 1 1000 = 0 := by decide +kernel
  have k2 : chkI 2 100 10 5 1115 1 1000 = 0 := by decide +kernel
  have k3 : chkI 2 100 10 5 1116 1 1000 = 11 := by decide +kernel
  have k4 : chkI 2 100 10 5 994 1 1000 = 10 := by decide +kernel
  go_enter Try.func12, Try.ntmps12
  go_wp2_with (first | (go_at_call 10; refine (check_any _ _ _ _ _ _ _ _ _ _ _ _ _ _ _ _ _ _ _ _ _ _ _ _ _ _ _ _ _ _ _).mono ?_; rintro e w1 ⟨rfl, hb⟩; obtain ⟨p, rfl⟩ := regr hb; clear hb))
  go_ret
  exact ⟨rfl, by (repeat (first | with_reducible exact Below.refl _ _ | with_reducible refine bl_alloc ?_ _ | ((with_reducible refine bl_set ?_ ?_ _); rotate_left; (first | exact Nat.le_refl _ | exact Nat.le_succ_of_le (Nat.le_refl _) | (simp only []; omega))) | with_reducible refine bl_drewN ?_ _ | with_reducible refine bl_drew ?_ | with_reducible refine bl_reg ?_ _))⟩

theorem lateChecks_walk (n f dmin dmax rho slew rnd win att seen hist fly quota body : Int) (la : Option Addr) (ll lc : Nat) (t0 t1 : Int) (k t fr s h no dst ix tot st vl : Int) (ba : Option Addr) (bl bc : Nat) (w : World) :
   Calls Try.prog 3 #[cfg n f dmin dmax rho slew rnd win att seen hist fly quota body la ll lc, .agg #[.int .i64 t0, .int .i64 t1], pkt k t fr s h no dst ix tot st vl ba bl bc] w (RetV w (.bool true)) := by
  go_enter Try.func3, Try.ntmps3
  go_wp2_with fail
  refine (ours_any _ _ _ _ _ _ _ _ _ _ _ _ _ _ _ _ _ _).mono ?_
  rintro e w1 ⟨v, ⟨b0, b1, b2, b3, b4, b5, b6, b7, b8, b9, b10, b11, b12, b13, rfl, hB⟩, rfl, hbl⟩
  obtain ⟨p, rfl⟩ := regr hbl
  clear hbl hB
  go_wp2_with fail
  refine wp_region_reg (by kernel_rfl) (by kernel_rfl) ?_
  repeat (first | go_big_quiet_step ((first | (go_at_call 10; exact class_reg (check_any _ _ _ _ _ _ _ _ _ _ _ _ _ _ _ _ _ _ _ _ _ _ _ _ _ _ _ _ _ _ _)) | (go_at_call 11; exact class_reg (rcheck_any _ _ _ _ _ _ _ _ _ _ _ _ _ _ _ _ _ _ _ _ _ _ _ _ _ _ _ _ _ _ _)) | (go_at_call 12; exact class_reg (works_any _)))) | quiet_step ((first | (go_at_call 10; exact class_reg (check_any _ _ _ _ _ _ _ _ _ _ _ _ _ _ _ _ _ _ _ _ _ _ _ _ _ _ _ _ _ _ _)) | (go_at_call 11; exact class_reg (rcheck_any _ _ _ _ _ _ _ _ _ _ _ _ _ _ _ _ _ _ _ _ _ _ _ _ _ _ _ _ _ _ _)) | (go_at_call 12; exact class_reg (works_any _)))))
  refine wpQuiet_nil ?_
  intro _ hcw1
  obtain ⟨pq, hcw2⟩ := hcw1
  subst hcw2
  go_wp2
  go_ret
  exact ⟨rfl, by (repeat (first | with_reducible exact Below.refl _ _ | with_reducible refine bl_alloc ?_ _ | ((with_reducible refine bl_set ?_ ?_ _); rotate_left; (first | exact Nat.le_refl _ | exact Nat.le_succ_of_le (Nat.le_refl _) | (simp only []; omega))) | with_reducible refine bl_drewN ?_ _ | with_reducible refine bl_drew ?_ | with_reducible refine bl_reg ?_ _))⟩
end Go.Proofs.Ytfmpppdcbeadnaa
