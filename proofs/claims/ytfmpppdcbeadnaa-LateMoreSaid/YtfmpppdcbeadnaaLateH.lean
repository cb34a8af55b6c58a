/- The walks of LateMore and LateOver. -/
import Derived.Test.YtfmpppdcbeadnaaLateG
namespace Go.Proofs.Ytfmpppdcbeadnaa
open Go.RowKit Go.Sort
set_option maxHeartbeats 4000000
set_option maxRecDepth 100000

theorem lateMore_walk (n f dmin dmax rho slew rnd win att seen hist fly quota body : Int) (la : Option Addr) (ll lc : Nat) (t0 t1 : Int) (k t fr s h no dst ix tot st vl : Int) (ba : Option Addr) (bl bc : Nat) (w : World)
    (ht0 : 0 ≤ t0) (ht0' : t0 ≤ 4294967295) (ht1 : 0 ≤ t1) (ht1' : t1 ≤ 4294967295) :
   Calls Try.prog 6 #[cfg n f dmin dmax rho slew rnd win att seen hist fly quota body la ll lc, .agg #[.int .u32 t0, .int .u32 t1], pkt k t fr s h no dst ix tot st vl ba bl bc] w (RetV w (.bool true)) := by
  go_enter Try.func6, Try.ntmps6
  go_wp2_with fail
  refine (ours_any _ _ _ _ _ _ _ _ _ _ _ _ _ _ _ _ _ _).mono ?_
  rintro e w1 ⟨v, ⟨b0, b1, b2, b3, b4, b5, b6, b7, b8, b9, b10, b11, b12, b13, rfl, hB⟩, rfl, hbl⟩
  obtain ⟨p, rfl⟩ := regr hbl
  clear hbl
  go_wp2_with fail
  refine (check_any _ _ _ _ _ _ _ _ _ _ _ _ _ _ _ _ _ _ _ _ _ _ _ _ _ _ _ _ _ _ _).mono ?_
  rintro e w1 ⟨rfl, hb⟩
  obtain ⟨p2, rfl⟩ := regr hb
  clear hb
  by_cases h0 : chkI b0 b3 b1 b7 t1 h t0 = 0
  · obtain ⟨f1, f2, f3, f4, f5⟩ := more_plain hB ⟨ht0, ht0'⟩ ⟨ht1, ht1'⟩ h0
    have hq : 0 ≤ b7 := hB.2.2.2.2.2.2.1
    have hq2 : b7 ≤ 18300341342965825 := by have := hB.2.2.2.2.2.2; omega
    have F := Lib.hid f2
    clear f2
    by_cases hm : b7 ≤ t0
    · have g2 := F.out (t0 - b7) (by omega) (by omega) (by omega)
      go_wp2_with (first | (go_at_call 10; refine (check_any _ _ _ _ _ _ _ _ _ _ _ _ _ _ _ _ _ _ _ _ _ _ _ _ _ _ _ _ _ _ _).mono ?_; rintro e w1 ⟨rfl, hb⟩; obtain ⟨p3, rfl⟩ := regr hb; clear hb) | (go_at_call 15; refine (due_any _ _ _ _ _ _ _ _ _ _ _ _ _ _ _ _ hB).mono ?_; rintro e w1 ⟨rfl, hb⟩; obtain ⟨p3, rfl⟩ := regr hb; clear hb) | (go_at_call 13; refine (until_any _ _ _ _ _ _ _ _ _ _ _ _ _ _ _ _ hB).mono ?_; rintro e w1 ⟨rfl, hb⟩; obtain ⟨p3, rfl⟩ := regr hb; clear hb) | (go_at_call 12; refine (works_any _).mono ?_; rintro e w1 ⟨rfl, hb⟩; obtain ⟨p3, rfl⟩ := regr hb; clear hb))
      go_ret
      exact ⟨rfl, by (repeat (first | with_reducible exact Below.refl _ _ | with_reducible refine bl_alloc ?_ _ | ((with_reducible refine bl_set ?_ ?_ _); rotate_left; (first | exact Nat.le_refl _ | exact Nat.le_succ_of_le (Nat.le_refl _) | (simp only []; omega))) | with_reducible refine bl_drewN ?_ _ | with_reducible refine bl_drew ?_ | with_reducible refine bl_reg ?_ _))⟩
    · have g2 : chkI b0 b3 b1 b7 (t1 / 2) h t0 = 0 := by simpa using F.out 0 (by omega) (by omega) (by omega)
      go_wp2_with (first | (go_at_call 10; refine (check_any _ _ _ _ _ _ _ _ _ _ _ _ _ _ _ _ _ _ _ _ _ _ _ _ _ _ _ _ _ _ _).mono ?_; rintro e w1 ⟨rfl, hb⟩; obtain ⟨p3, rfl⟩ := regr hb; clear hb) | (go_at_call 15; refine (due_any _ _ _ _ _ _ _ _ _ _ _ _ _ _ _ _ hB).mono ?_; rintro e w1 ⟨rfl, hb⟩; obtain ⟨p3, rfl⟩ := regr hb; clear hb) | (go_at_call 13; refine (until_any _ _ _ _ _ _ _ _ _ _ _ _ _ _ _ _ hB).mono ?_; rintro e w1 ⟨rfl, hb⟩; obtain ⟨p3, rfl⟩ := regr hb; clear hb) | (go_at_call 12; refine (works_any _).mono ?_; rintro e w1 ⟨rfl, hb⟩; obtain ⟨p3, rfl⟩ := regr hb; clear hb))
      go_ret
      exact ⟨rfl, by (repeat (first | with_reducible exact Below.refl _ _ | with_reducible refine bl_alloc ?_ _ | ((with_reducible refine bl_set ?_ ?_ _); rotate_left; (first | exact Nat.le_refl _ | exact Nat.le_succ_of_le (Nat.le_refl _) | (simp only []; omega))) | with_reducible refine bl_drewN ?_ _ | with_reducible refine bl_drew ?_ | with_reducible refine bl_reg ?_ _))⟩
  · have hne : (chkI b0 b3 b1 b7 t1 h t0 != 0) = true := by simpa using h0
    go_wp2_with (first | (go_at_call 11; refine (rcheck_any _ _ _ _ _ _ _ _ _ _ _ _ _ _ _ _ _ _ _ _ _ _ _ _ _ _ _ _ _ _ _).mono ?_; rintro e w1 ⟨rfl, hb⟩; obtain ⟨p3, rfl⟩ := regr hb; clear hb) | (go_at_call 12; refine (works_any _).mono ?_; rintro e w1 ⟨rfl, hb⟩; obtain ⟨p4, rfl⟩ := regr hb; clear hb))
    go_ret
    exact ⟨rfl, by (repeat (first | with_reducible exact Below.refl _ _ | with_reducible refine bl_alloc ?_ _ | ((with_reducible refine bl_set ?_ ?_ _); rotate_left; (first | exact Nat.le_refl _ | exact Nat.le_succ_of_le (Nat.le_refl _) | (simp only []; omega))) | with_reducible refine bl_drewN ?_ _ | with_reducible refine bl_drew ?_ | with_reducible refine bl_reg ?_ _))⟩
end Go.Proofs.Ytfmpppdcbeadnaa
