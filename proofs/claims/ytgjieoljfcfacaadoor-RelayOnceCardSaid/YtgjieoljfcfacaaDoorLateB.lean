/- Layer 26: walks of a cluster's numbers (the document's answer), and of the statement's choice of a configuration. -/
import Derived.Test.YtgjieoljfcfacaaDoorLateA
import Derived.StillTailTactics
namespace Go.Proofs.YtgjieoljfcfacaaDoor
open Go.RowKit Go.Sort
set_option maxHeartbeats 1000000
set_option maxRecDepth 100000

def ROk (rho slew : Int) (b : Bool) : Prop := b = true → 0 ≤ rho ∧ rho ≤ 64 ∧ 1 ≤ slew ∧ slew ≤ 256
def RetR (w : World) (P : Bool → Prop) (e : Ending) (w' : World) : Prop := ∃ b : Bool, P b ∧ e = .returned (.bool b) ∧ w = w'
theorem rgood_any (rho slew : Int) (w : World) : Calls Tryd.prog 44 #[.int .i64 rho, .int .i64 slew] w (RetR w (ROk rho slew)) := by
  go_enter Tryd.func44, Tryd.ntmps44
  go_wp2
  all_goals (go_ret; exact ⟨_, by intro h; simp at h; try omega, rfl, rfl⟩)

theorem rgood_yes (rho slew : Int) (w : World) (h1 : 0 ≤ rho) (h2 : rho ≤ 64) (h3 : 1 ≤ slew) (h4 : slew ≤ 256) : Calls Tryd.prog 44 #[.int .i64 rho, .int .i64 slew] w fun e w' => e = .returned (.bool true) ∧ w = w' := by
  go_enter Tryd.func44, Tryd.ntmps44
  go_wp2
  go_ret
  exact ⟨ret_bool (by simp; omega), rfl⟩

theorem fast_any (rho slew : Int) (w : World) (h1 : 0 ≤ rho) (h2 : rho ≤ 64) (h3 : 1 ≤ slew) (h4 : slew ≤ 256) : Calls Tryd.prog 64 #[.int .i64 rho, .int .i64 slew] w fun e w' => e = .returned (.int .i64 (1024 + rho + slew)) ∧ w = w' := by
  go_enter Tryd.func64, Tryd.ntmps64
  go_wp2_with (go_at_call 44; refine (rgood_yes _ _ _ h1 h2 h3 h4).mono ?_; rintro e w' ⟨rfl, rfl⟩)
  go_ret
  exact ⟨rfl, rfl⟩

theorem slow_any (rho slew : Int) (w : World) (h1 : 0 ≤ rho) (h2 : rho ≤ 64) (h3 : 1 ≤ slew) (h4 : slew ≤ 256) : Calls Tryd.prog 65 #[.int .i64 rho, .int .i64 slew] w fun e w' => e = .returned (.int .i64 (1024 - rho - slew)) ∧ w = w' := by
  go_enter Tryd.func65, Tryd.ntmps65
  go_wp2_with (go_at_call 44; refine (rgood_yes _ _ _ h1 h2 h3 h4).mono ?_; rintro e w' ⟨rfl, rfl⟩)
  go_ret
  exact ⟨rfl, rfl⟩

theorem ticks_any (g s : Int) (w : World) (h1 : 0 ≤ g) (h2 : g ≤ 1152921504606846976) (h3 : 1 ≤ s) : Calls Tryd.prog 66 #[.int .i64 g, .int .i64 s] w fun e w' => e = .returned (.int .i64 (g / s + 2)) ∧ w = w' := by
  have hq : 0 ≤ g / s ∧ g / s ≤ g := ⟨Int.ediv_nonneg h1 (by omega), Int.ediv_le_self _ h1⟩
  obtain ⟨hq1, hq2⟩ := hq
  go_enter Tryd.func66, Tryd.ntmps66
  go_wp2
  go_ret
  exact ⟨rfl, rfl⟩

theorem herr_any (h a b r : Int) (w : World) (h1 : 0 ≤ h) (h2 : h ≤ 63) (h3 : 1 ≤ a) (h4 : a ≤ b) (h5 : b ≤ 64) (h6 : 0 ≤ r) (h7 : r ≤ 64) : Calls Tryd.prog 67 #[.int .i64 h, .int .i64 a, .int .i64 b, .int .i64 r] w fun e w' => e = .returned (.int .i64 (h * ((b - a) * 512 + r * b))) ∧ w = w' := by
  have m1 : 0 ≤ r * b ∧ r * b ≤ 64 * 64 := ⟨Int.mul_nonneg (by omega) (by omega), Int.mul_le_mul h7 h5 (by omega) (by omega)⟩
  obtain ⟨m1, m2⟩ := m1
  have m3 : 0 ≤ h * ((b - a) * 512 + r * b) ∧ h * ((b - a) * 512 + r * b) ≤ 63 * (63 * 512 + 64 * 64) := ⟨Int.mul_nonneg (by omega) (by omega), Int.mul_le_mul h2 (by omega) (by omega) (by omega)⟩
  obtain ⟨m3, m4⟩ := m3
  go_enter Tryd.func67, Tryd.ntmps67
  go_wp2
  go_ret
  exact ⟨rfl, rfl⟩

theorem hgood_yes (a b : Int) (w : World) (h3 : 1 ≤ a) (h4 : a ≤ b) (h5 : b ≤ 64) : Calls Tryd.prog 81 #[.int .i64 1, .int .i64 a, .int .i64 b] w fun e w' => e = .returned (.bool true) ∧ w = w' := by
  go_enter Tryd.func81, Tryd.ntmps81
  go_wp2
  go_ret
  exact ⟨ret_bool (by simp; omega), rfl⟩

theorem derr_any (a b rho slew : Int) (w : World) (h3 : 1 ≤ a) (h4 : a ≤ b) (h5 : b ≤ 64) (g1 : 0 ≤ rho) (g2 : rho ≤ 64) (g3 : 1 ≤ slew) (g4 : slew ≤ 256) : Calls Tryd.prog 68 #[.int .i64 a, .int .i64 b, .int .i64 rho, .int .i64 slew] w fun e w' => e = .returned (.tuple #[.int .i64 ((b - a) * 512 + (2 * rho + slew) * b + 1), .bool true]) ∧ w = w' := by
  have m1 : 0 ≤ (2 * rho + slew) * b ∧ (2 * rho + slew) * b ≤ 384 * 64 := ⟨Int.mul_nonneg (by omega) (by omega), Int.mul_le_mul (by omega) h5 (by omega) (by omega)⟩
  obtain ⟨m1, m2⟩ := m1
  go_enter Tryd.func68, Tryd.ntmps68
  go_wp2_with (first | (go_at_call 44; refine (rgood_yes _ _ _ g1 g2 g3 g4).mono ?_; rintro e w' ⟨rfl, rfl⟩) | (go_at_call 81; refine (hgood_yes _ _ _ h3 h4 h5).mono ?_; rintro e w' ⟨rfl, rfl⟩))
  go_ret2
  exact ⟨rfl, rfl⟩

abbrev cfg (n f dmin dmax rho slew rnd win att seen hist fly quota body : Int) (la : Option Addr) (ll lc : Nat) : Value := .agg #[.int .i64 n, .slice la ll lc, .int .i64 f, .int .i64 dmin, .int .i64 dmax, .int .i64 rho, .int .i64 slew, .int .i64 rnd, .int .i64 win, .int .i64 att, .int .i64 seen, .int .i64 hist, .int .i64 fly, .int .i64 quota, .int .i64 body]
def GOk (n dmin dmax rho slew rnd win att : Int) (b : Bool) : Prop := b = true → 2 ≤ n ∧ n ≤ 64 ∧ 1 ≤ dmin ∧ dmin ≤ dmax ∧ dmax ≤ 64 ∧ (0 ≤ rho ∧ rho ≤ 64 ∧ 1 ≤ slew ∧ slew ≤ 256) ∧ 1 ≤ rnd ∧ rnd ≤ 1099511627776 ∧ 1 ≤ win ∧ win ≤ 1099511627776 ∧ 1 ≤ att ∧ att ≤ 1099511627776
theorem good_any (n f dmin dmax rho slew rnd win att seen hist fly quota body : Int) (la : Option Addr) (ll lc : Nat) (w : World) :
   Calls Tryd.prog 19 #[cfg n f dmin dmax rho slew rnd win att seen hist fly quota body la ll lc] w (RetB w (GOk n dmin dmax rho slew rnd win att)) := by
  go_enter Tryd.func19, Tryd.ntmps19
  go_wp2_with (go_at_call 44; refine (rgood_any _ _ _).mono ?_; rintro e w' ⟨b, hb, rfl, rfl⟩; cases b)
  all_goals (go_ret; refine ⟨_, ?_, rfl, (Below.refl _ _).alloc (Nat.le_refl _) _⟩)
  all_goals first | (intro h; cases h; done) | (intro h; simp at h; done) | (intro h; simp at h; have hb' := hb rfl; refine ⟨?_, ?_, ?_, ?_, ?_, hb', ?_, ?_, ?_, ?_, ?_, ?_⟩ <;> omega)
end Go.Proofs.YtgjieoljfcfacaaDoor
