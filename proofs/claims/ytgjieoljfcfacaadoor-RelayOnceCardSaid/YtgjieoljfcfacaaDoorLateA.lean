/- Layer 30 and what it stands on: walks of the plain integer functions, and of a cluster's numbers. -/
import Derived.Test.YtgjieoljfcfacaaDoorBase
namespace Go.Proofs.YtgjieoljfcfacaaDoor
open Go.RowKit Go.Sort
set_option maxHeartbeats 400000
set_option maxRecDepth 100000

def okT (t : Int) : Bool := decide (0 ≤ t ∧ t ≤ 1152921504606846976)
theorem okT_t {t : Int} (h1 : 0 ≤ t) (h2 : t ≤ 1152921504606846976) : okT t = true := by simp [okT]; omega
theorem okT_f {t : Int} (h : t < 0 ∨ 1152921504606846976 < t) : okT t = false := by simp [okT]; omega
theorem of_okT {t : Int} (h : okT t = true) : 0 ≤ t ∧ t ≤ 1152921504606846976 := by simpa [okT] using h

theorem time_any (t : Int) (w : World) : Calls Tryd.prog 58 #[.int .i64 t] w (fun e w' => e = .returned (.bool (okT t)) ∧ w = w') := by
  go_enter Tryd.func58, Tryd.ntmps58
  go_wp2
  all_goals (go_ret; exact ⟨by simp [okT]; try omega, rfl⟩)
theorem rtime_any (t : Int) (w : World) : Calls Tryd.prog 27 #[.int .i64 t] w (fun e w' => e = .returned (.bool (okT t)) ∧ w = w') := by
  go_enter Tryd.func27, Tryd.ntmps27
  go_wp2
  all_goals (go_ret; exact ⟨by simp [okT]; try omega, rfl⟩)

/-- How late a message over h links may be. -/
def lateI (hops link fast h tol : Int) : Int := if h < 0 ∨ hops < h then 0 else wrap64 (wrap64 (h * wrap64 (link + tol)) + fast)

abbrev bnd (b0 b1 b2 b3 b4 b5 b6 b7 b8 b9 b10 b11 b12 b13 : Int) : Value := .agg #[.int .i64 b0, .int .i64 b1, .int .i64 b2, .int .i64 b3, .int .i64 b4, .int .i64 b5, .int .i64 b6, .int .i64 b7, .int .i64 b8, .int .i64 b9, .int .i64 b10, .int .i64 b11, .int .i64 b12, .int .i64 b13]

theorem late_any (b0 b1 b2 b3 b4 b5 b6 b7 b8 b9 b10 b11 b12 b13 h tol : Int) (w : World) (h1 : 0 ≤ tol) (h2 : tol ≤ 18300341342965825) :
    Calls Tryd.prog 49 #[bnd b0 b1 b2 b3 b4 b5 b6 b7 b8 b9 b10 b11 b12 b13, .int .i64 h, .int .i64 tol] w (RetV w (.int .i64 (lateI b0 b3 b1 h tol))) := by
  go_enter Tryd.func49, Tryd.ntmps49
  go_wp2
  all_goals (go_ret; refine ⟨?_, (Below.refl _ _).alloc (Nat.le_refl _) _⟩; apply ret_int; unfold lateI; first | rw [if_pos (by omega)] | rw [if_neg (by omega)])
theorem rlate_any (b0 b1 b2 b3 b4 b5 b6 b7 b8 b9 b10 b11 b12 b13 h tol : Int) (w : World) :
    Calls Tryd.prog 29 #[bnd b0 b1 b2 b3 b4 b5 b6 b7 b8 b9 b10 b11 b12 b13, .int .i64 h, .int .i64 tol] w (RetV w (.int .i64 (lateI b0 b3 b1 h tol))) := by
  go_enter Tryd.func29, Tryd.ntmps29
  go_wp2
  all_goals (go_ret; refine ⟨?_, (Below.refl _ _).alloc (Nat.le_refl _) _⟩; apply ret_int; unfold lateI; first | rw [if_pos (by omega)] | rw [if_neg (by omega)])

/-- What late.Check says. -/
def chkI (hops link fast tol now h t : Int) : Int :=
  if tol < 0 ∨ 18300341342965825 < tol ∨ okT now = false ∨ okT t = false then 1 else if h < 1 ∨ hops < h then 9 else if tol < wrap64 (t - now) then 10 else if lateI hops link fast h tol < wrap64 (now - t) then 11 else 0
abbrev pkt (k t f s h no dst ix tot st vl : Int) (ba : Option Addr) (bl bc : Nat) : Value := .agg #[.int .i64 k, .int .i64 t, .int .i64 f, .int .u32 s, .int .i64 h, .int .i64 no, .int .i64 dst, .int .i64 ix, .int .i64 tot, .int .i64 st, .int .i64 vl, .slice ba bl bc]

theorem check_any (b0 b1 b2 b3 b4 b5 b6 b7 b8 b9 b10 b11 b12 b13 tol now k t f s h no dst ix tot st vl : Int) (ba : Option Addr) (bl bc : Nat) (w : World) :
    Calls Tryd.prog 38 #[bnd b0 b1 b2 b3 b4 b5 b6 b7 b8 b9 b10 b11 b12 b13, .int .i64 tol, .int .i64 now, pkt k t f s h no dst ix tot st vl ba bl bc] w (RetV w (.int .i64 (chkI b0 b3 b1 tol now h t))) := by
  go_enter Tryd.func38, Tryd.ntmps38
  go_wp2_with (first | (go_at_call 58; refine (time_any _ _).mono ?_; rintro e w' ⟨rfl, rfl⟩) | (go_at_call 49; refine (late_any _ _ _ _ _ _ _ _ _ _ _ _ _ _ _ _ _ (by omega) (by omega)).mono ?_; rintro e w1 ⟨rfl, hb⟩))
  all_goals (go_ret; refine ⟨ret_int ?_, ?_⟩)
  all_goals first | exact (((Below.refl _ _).alloc (Nat.le_refl _) _).alloc (by simp) _) | exact (((Below.refl _ _).alloc (Nat.le_refl _) _).alloc (by simp) _).trans (hb.mono (by simp; omega)) | (unfold chkI; cases h1 : okT t <;> cases h2 : okT now <;> simp_all <;> omega)

theorem rcheck_any (b0 b1 b2 b3 b4 b5 b6 b7 b8 b9 b10 b11 b12 b13 tol now k t f s h no dst ix tot st vl : Int) (ba : Option Addr) (bl bc : Nat) (w : World) :
    Calls Tryd.prog 54 #[bnd b0 b1 b2 b3 b4 b5 b6 b7 b8 b9 b10 b11 b12 b13, .int .i64 tol, .int .i64 now, pkt k t f s h no dst ix tot st vl ba bl bc] w (RetV w (.int .i64 (chkI b0 b3 b1 tol now h t))) := by
  go_enter Tryd.func54, Tryd.ntmps54
  go_wp2_with (first | (go_at_call 27; refine (rtime_any _ _).mono ?_; rintro e w' ⟨rfl, rfl⟩))
  all_goals try
    refine wp_region_reg (by kernel_rfl) (by kernel_rfl) ?_
    repeat (first | go_big_quiet_step ((first | (go_at_call 29; exact class_reg (rlate_any _ _ _ _ _ _ _ _ _ _ _ _ _ _ _ _ _)))) | quiet_step ((first | (go_at_call 29; exact class_reg (rlate_any _ _ _ _ _ _ _ _ _ _ _ _ _ _ _ _ _)))))
    refine wpQuiet_nil ?_
    intro _ hcw1
    obtain ⟨pq, hcw2⟩ := hcw1
    subst hcw2
  all_goals try go_wp2
  all_goals (go_ret; refine ⟨ret_int ?_, ?_⟩)
  all_goals first | exact (((Below.refl _ _).alloc (Nat.le_refl _) _).alloc (by simp) _) | exact (((Below.refl _ _).alloc (Nat.le_refl _) _).alloc (by simp) _).trans ((below_reg _ pq).mono (by simp; omega)) | (unfold chkI; cases h1 : okT t <;> cases h2 : okT now <;> simp_all <;> omega)
end Go.Proofs.YtgjieoljfcfacaaDoor
