/- Layer 26: the walk of the document's numbers of a good configuration. -/
import Derived.Test.YtgjieoljfcfacaaDoorLateB
import Derived.Test.YtgjieoljfcfacaaDoorTail
namespace Go.Proofs.YtgjieoljfcfacaaDoor
open Go.RowKit Go.Sort
attribute [local go_sem ↓] Go.wp_at_zero Go.wp_at_succ
set_option maxHeartbeats 0
set_option maxRecDepth 100000

/-- What is known of a cluster's numbers: Hops, Fast, Link, Eps, Rough, Delta. -/
def BOk (b0 b1 b3 b7 b10 b11 : Int) : Prop := 1 ≤ b0 ∧ b0 ≤ 63 ∧ 1 ≤ b1 ∧ b1 ≤ 2000 ∧ 0 ≤ b3 ∧ b3 ≤ 128000 ∧ 0 ≤ b7 ∧ b7 ≤ b10 ∧ b10 ≤ 18000000000000000 ∧ b11 = b0 * (b3 + b7) + 2 * b1
def IsB (P : Int → Int → Int → Int → Int → Int → Prop) (v : Value) : Prop := ∃ b0 b1 b2 b3 b4 b5 b6 b7 b8 b9 b10 b11 b12 b13 : Int, v = bnd b0 b1 b2 b3 b4 b5 b6 b7 b8 b9 b10 b11 b12 b13 ∧ P b0 b1 b3 b7 b10 b11

theorem of_any (n f dmin dmax rho slew rnd win att seen hist fly quota body : Int) (la : Option Addr) (ll lc : Nat) (w : World) (hg : GOk n dmin dmax rho slew rnd win att true) :
   Calls Tryd.prog 45 #[cfg n f dmin dmax rho slew rnd win att seen hist fly quota body la ll lc] w (RetP w (IsB BOk)) := by
  obtain ⟨n1, n2, d1, d2, d3, ⟨r1, r2, s1, s2⟩, p1, p2, p3, p4, p5, p6⟩ := hg rfl
  clear hg
  have e1 : IntKind.i64.wrap (n - 1) = n - 1 := IntWalk.i64_in _ (by omega)
  have e2 : IntKind.i64.wrap (2 * rho) = 2 * rho := IntWalk.i64_in _ (by omega)
  have e3 : IntKind.i64.wrap (2 * rnd) = 2 * rnd := IntWalk.i64_in _ (by omega)
  have e3b : IntKind.i64.wrap (2 * win) = 2 * win := IntWalk.i64_in _ (by omega)
  have tick : ∀ g : Int, 0 ≤ g → g ≤ 2199023255552 → 0 ≤ g / (1024 - rho - slew) + 2 ∧ g / (1024 - rho - slew) + 2 ≤ 2199023255554 := fun g h0 h1 => by
    have a1 : 0 ≤ g / (1024 - rho - slew) := Int.ediv_nonneg h0 (by omega)
    have a2 : g / (1024 - rho - slew) ≤ g := Int.ediv_le_self _ h0
    omega
  have wand : ∀ T : Int, 0 ≤ T ∧ T ≤ 2199023255554 → 0 ≤ 2 * rho * T ∧ 2 * rho * T ≤ 281474976710912 := fun T h =>
    ⟨Int.mul_nonneg (by omega) (by omega), by have := Int.mul_le_mul (a := 2 * rho) (b := T) (c := 128) (d := 2199023255554) (by omega) h.2 (by omega) (by omega); omega⟩
  obtain ⟨T1, eT1⟩ : ∃ T, 2 * rnd / (1024 - rho - slew) + 2 = T := ⟨_, rfl⟩
  have hT1 := tick (2 * rnd) (by omega) (by omega)
  rw [eT1] at hT1
  obtain ⟨M1, eM1⟩ : ∃ T, 2 * rho * T1 = T := ⟨_, rfl⟩
  have hM1 := wand T1 hT1
  rw [eM1] at hM1
  obtain ⟨T2, eT2⟩ : ∃ T, 2 * win / (1024 - rho - slew) + 2 = T := ⟨_, rfl⟩
  have hT2 := tick (2 * win) (by omega) (by omega)
  rw [eT2] at hT2
  obtain ⟨M2, eM2⟩ : ∃ T, 2 * rho * T2 = T := ⟨_, rfl⟩
  have hM2 := wand T2 hT2
  rw [eM2] at hM2
  obtain ⟨Lk, eLk⟩ : ∃ T, dmax * (1024 + rho + slew) = T := ⟨_, rfl⟩
  have hLk : 0 ≤ Lk ∧ Lk ≤ 86016 := by
    rw [← eLk]
    exact ⟨Int.mul_nonneg (by omega) (by omega), by have := Int.mul_le_mul (a := dmax) (b := 1024 + rho + slew) (c := 64) (d := 1344) (by omega) (by omega) (by omega) (by omega); omega⟩
  obtain ⟨E1, eE1⟩ : ∃ T, (n - 1) * ((dmax - dmin) * 512 + rho * dmax) = T := ⟨_, rfl⟩
  have hE1 : 0 ≤ E1 ∧ E1 ≤ 2290176 := by
    have m1 : 0 ≤ rho * dmax ∧ rho * dmax ≤ 4096 := ⟨Int.mul_nonneg (by omega) (by omega), by have := Int.mul_le_mul (a := rho) (b := dmax) (c := 64) (d := 64) (by omega) (by omega) (by omega) (by omega); omega⟩
    rw [← eE1]
    exact ⟨Int.mul_nonneg (by omega) (by omega), by have := Int.mul_le_mul (a := n - 1) (b := (dmax - dmin) * 512 + rho * dmax) (c := 63) (d := 36352) (by omega) (by omega) (by omega) (by omega); omega⟩
  obtain ⟨D1, eD1⟩ : ∃ T, (dmax - dmin) * 512 + (2 * rho + slew) * dmax + 1 = T := ⟨_, rfl⟩
  have hD1 : 0 ≤ D1 ∧ D1 ≤ 60000 := by
    have m1 : 0 ≤ (2 * rho + slew) * dmax ∧ (2 * rho + slew) * dmax ≤ 24576 := ⟨Int.mul_nonneg (by omega) (by omega), by have := Int.mul_le_mul (a := 2 * rho + slew) (b := dmax) (c := 384) (d := 64) (by omega) (by omega) (by omega) (by omega); omega⟩
    omega
  obtain ⟨Rd, eRd⟩ : ∃ T, E1 + M2 = T := ⟨_, rfl⟩
  obtain ⟨Ag, eAg⟩ : ∃ T, 2 * Rd + 2 = T := ⟨_, rfl⟩
  obtain ⟨St, eSt⟩ : ∃ T, Ag + M1 = T := ⟨_, rfl⟩
  obtain ⟨Ep, eEp⟩ : ∃ T, St + 2 * Rd + 2 + M1 + 2 * (1024 + rho + slew) = T := ⟨_, rfl⟩
  obtain ⟨Mo, eMo⟩ : ∃ T, St + Rd + 2 = T := ⟨_, rfl⟩
  obtain ⟨Ro, eRo⟩ : ∃ T, Ep + D1 + Mo + M1 + 4 * (1024 + rho + slew) = T := ⟨_, rfl⟩
  have hEp : 0 ≤ Ep ∧ Ep ≤ 3000000000000000 := by omega
  obtain ⟨X1, eX1⟩ : ∃ T, (n - 1) * (Lk + Ep) = T := ⟨_, rfl⟩
  have hX1 : 0 ≤ X1 ∧ X1 ≤ 200000000000000000 := by
    rw [← eX1]
    exact ⟨Int.mul_nonneg (by omega) (by omega), by have := Int.mul_le_mul (a := n - 1) (b := Lk + Ep) (c := 63) (d := 3000000000086016) (by omega) (by omega) (by omega) (by omega); omega⟩
  obtain ⟨De, eDe⟩ : ∃ T, X1 + 2 * (1024 + rho + slew) = T := ⟨_, rfl⟩
  have ticks' : ∀ g : Int, 0 ≤ g → g ≤ 1000000000000000000 → 0 ≤ g / (1024 - rho - slew) + 2 ∧ g / (1024 - rho - slew) + 2 ≤ 1000000000000000002 := fun g h0 h1 => by
    have a1 : 0 ≤ g / (1024 - rho - slew) := Int.ediv_nonneg h0 (by omega)
    have a2 : g / (1024 - rho - slew) ≤ g := Int.ediv_le_self _ h0
    omega
  obtain ⟨T3, eT3⟩ : ∃ T, (att + 2 * Ep + 2 * De) / (1024 - rho - slew) + 2 = T := ⟨_, rfl⟩
  have hT3 := ticks' (att + 2 * Ep + 2 * De) (by omega) (by omega)
  rw [eT3] at hT3
  obtain ⟨T4, eT4⟩ : ∃ T, (2 * rnd + 2 * win) / (1024 - rho - slew) + 2 = T := ⟨_, rfl⟩
  have hT4 := ticks' (2 * rnd + 2 * win) (by omega) (by omega)
  rw [eT4] at hT4
  obtain ⟨T5, eT5⟩ : ∃ T, (2 * att + 2 * Ep + 2 * De) / (1024 - rho - slew) + 2 = T := ⟨_, rfl⟩
  have hT5 := ticks' (2 * att + 2 * Ep + 2 * De) (by omega) (by omega)
  rw [eT5] at hT5
  clear tick wand ticks'
  obtain ⟨a1, a2⟩ := hT1; obtain ⟨a3, a4⟩ := hM1; obtain ⟨a5, a6⟩ := hT2; obtain ⟨a7, a8⟩ := hM2; obtain ⟨a9, a10⟩ := hLk; obtain ⟨a11, a12⟩ := hE1; obtain ⟨a13, a14⟩ := hD1; obtain ⟨a15, a16⟩ := hEp; obtain ⟨a17, a18⟩ := hX1; obtain ⟨a19, a20⟩ := hT3; obtain ⟨a21, a22⟩ := hT4; obtain ⟨a23, a24⟩ := hT5
  have e4 : IntKind.i64.wrap M1 = M1 := IntWalk.i64_in _ (by omega)
  have e5 : IntKind.i64.wrap M2 = M2 := IntWalk.i64_in _ (by omega)
  have e6 : IntKind.i64.wrap Rd = Rd := IntWalk.i64_in _ (by omega)
  go_enter Tryd.func45, Tryd.ntmps45
  go_upto_region 1 with fail
  go_cut [3] (fun t wx => t = .pointer (some ⟨w.heap.size + 1 + 1, 0, none⟩) ∧ wx = (((w.alloc (.cells #[.int .i64 n, .slice la ll lc, .int .i64 f, .int .i64 dmin, .int .i64 dmax, .int .i64 rho, .int .i64 slew, .int .i64 rnd, .int .i64 win, .int .i64 att, .int .i64 seen, .int .i64 hist, .int .i64 fly, .int .i64 quota, .int .i64 body] 24)).alloc (.cells #[.int .i64 0, .int .i64 0, .int .i64 0, .int .i64 0, .int .i64 0, .int .i64 0, .int .i64 0, .int .i64 0, .int .i64 0, .int .i64 0, .int .i64 0, .int .i64 0, .int .i64 0, .int .i64 0] 36)).alloc (.cells #[.int .i64 (n - 1), .int .i64 (1024 + rho + slew), .int .i64 (1024 - rho - slew), .int .i64 0, .int .i64 0, .int .i64 0, .int .i64 0, .int .i64 0, .int .i64 0, .int .i64 0, .int .i64 0, .int .i64 0, .int .i64 0, .int .i64 0] 36)).drew)
  case first =>
    go_region_held3 (fun w' => w'.cell? ⟨w.heap.size, 0, none⟩ = some (.int .i64 n) ∧ w'.cell? ⟨w.heap.size, 5, none⟩ = some (.int .i64 rho) ∧ w'.cell? ⟨w.heap.size, 6, none⟩ = some (.int .i64 slew)) (simp [go_sem, World.cell?_alloc_past])
      (first | (go_at_call 64; refine (fast_any _ _ _ r1 r2 s1 s2).mono ?_; rintro e w' ⟨rfl, rfl⟩) | (go_at_call 65; refine (slow_any _ _ _ r1 r2 s1 s2).mono ?_; rintro e w' ⟨rfl, rfl⟩))
    all_goals (go_wp2_with fail; go_meet; exact ⟨rfl, rfl⟩)
  case rest =>
    obtain ⟨rfl, rfl⟩ := hcut
    clear e1
    go_wp2_with fail
    refine wp_region_quiet_lit (by kernel_rfl) (by kernel_rfl) ?_
    repeat (first | go_big_quiet_step ((go_at_call 66; refine class_same (ticks_any _ _ _ (by omega) (by omega) (by omega)) ⟨_, rfl⟩)) | quiet_step ((go_at_call 66; refine class_same (ticks_any _ _ _ (by omega) (by omega) (by omega)) ⟨_, rfl⟩)))
    refine wpQuiet_nil ?_
    intro _ hcw1
    obtain ⟨nq, hcw2⟩ := hcw1
    subst hcw2
    go_wp2_with fail
    refine wp_region_tail_drewN 21 (by kernel_rfl) (by kernel_rfl) (by kernel_rfl) (by kernel_rfl) ?_
    simp only [List.take_succ_cons, List.take_zero, List.drop_succ_cons, List.drop_zero]
    repeat (first | go_big_quiet_step ((first | (go_at_call 66; refine class_same (ticks_any _ _ _ (by omega) (by omega) (by omega)) ⟨_, rfl⟩) | (go_at_call 67; refine class_same (herr_any _ _ _ _ _ (by omega) (by omega) (by omega) (by omega) (by omega) (by omega) (by omega)) ⟨_, rfl⟩))) | quiet_step ((first | (go_at_call 66; refine class_same (ticks_any _ _ _ (by omega) (by omega) (by omega)) ⟨_, rfl⟩) | (go_at_call 67; refine class_same (herr_any _ _ _ _ _ (by omega) (by omega) (by omega) (by omega) (by omega) (by omega) (by omega)) ⟨_, rfl⟩))))
    refine wpQuiet_nil ?_
    intro _ hcw1
    obtain ⟨nq, hcw2⟩ := hcw1
    subst hcw2
    clear e2 e3 e3b e4 e5 e6
    go_wp2_with (first | (go_at_call 66; refine (ticks_any _ _ _ (by omega) (by omega) (by omega)).mono ?_; rintro e w' ⟨rfl, rfl⟩) | (go_at_call 68; refine (derr_any _ _ _ _ _ (by omega) (by omega) (by omega) (by omega) (by omega) (by omega) (by omega)).mono ?_; rintro e w' ⟨rfl, rfl⟩))
    have f1 : IntKind.i64.wrap (2 * dmax) = 2 * dmax := IntWalk.i64_in _ (by omega)
    have f2 : IntKind.i64.wrap (2 * dmax + 8) = 2 * dmax + 8 := IntWalk.i64_in _ (by omega)
    have f3 : IntKind.i64.wrap (2 * rnd) = 2 * rnd := IntWalk.i64_in _ (by omega)
    have f4 : IntKind.i64.wrap (2 * win) = 2 * win := IntWalk.i64_in _ (by omega)
    have f5 : IntKind.i64.wrap (2 * rnd + 2 * win) = 2 * rnd + 2 * win := IntWalk.i64_in _ (by omega)
    have f6 : IntKind.i64.wrap (2 * dmax + 8 + T4) = 2 * dmax + 8 + T4 := IntWalk.i64_in _ (by omega)
    have f7 : IntKind.i64.wrap (2 * att) = 2 * att := IntWalk.i64_in _ (by omega)
    have f8 : IntKind.i64.wrap (2 * Ep) = 2 * Ep := IntWalk.i64_in _ (by omega)
    have f9 : IntKind.i64.wrap (2 * De) = 2 * De := IntWalk.i64_in _ (by omega)
    have f10 : IntKind.i64.wrap (2 * att + 2 * Ep) = 2 * att + 2 * Ep := IntWalk.i64_in _ (by omega)
    have f11 : IntKind.i64.wrap (2 * att + 2 * Ep + 2 * De) = 2 * att + 2 * Ep + 2 * De := IntWalk.i64_in _ (by omega)
    have f12 : IntKind.i64.wrap (2 * dmax + 8 + T4 + T5) = 2 * dmax + 8 + T4 + T5 := IntWalk.i64_in _ (by omega)
    refine wp_region_tail_drewN 31 (by kernel_rfl) (by kernel_rfl) (by kernel_rfl) (by kernel_rfl) ?_
    simp only [List.take_succ_cons, List.take_zero, List.drop_succ_cons, List.drop_zero]
    repeat (first | go_big_quiet_step ((first | (go_at_call 66; refine class_same (ticks_any _ _ _ (by omega) (by omega) (by omega)) ⟨_, rfl⟩))) | quiet_step ((first | (go_at_call 66; refine class_same (ticks_any _ _ _ (by omega) (by omega) (by omega)) ⟨_, rfl⟩))))
    refine wpQuiet_nil ?_
    intro _ hcw1
    obtain ⟨nq, hcw2⟩ := hcw1
    subst hcw2
    clear f1 f2 f3 f4 f5 f6 f7 f8 f9 f10 f11 f12
    go_wp2
    refine bodyPost_ret (v := bnd (n - 1) (1024 + rho + slew) (1024 - rho - slew) Lk Rd Ag St Ep Mo D1 Ro De T3 (2 * dmax + 8 + T4 + T5)) ?_ rfl ?_
    · simp [results, Tryd.results45, go_sem]
    · refine ⟨_, ⟨_, _, _, _, _, _, _, _, _, _, _, _, _, _, rfl, ?_⟩, rfl, ?_⟩
      · refine ⟨by omega, by omega, by omega, by omega, by omega, by omega, by omega, by omega, by omega, ?_⟩
        rw [eX1]; exact eDe.symm
      · (repeat (first | with_reducible exact Below.refl _ _ | with_reducible refine bl_alloc ?_ _ | ((with_reducible refine bl_set ?_ ?_ _); rotate_left; (first | exact Nat.le_refl _ | exact Nat.le_succ_of_le (Nat.le_refl _) | (simp only []; omega))) | with_reducible refine bl_drewN ?_ _ | with_reducible refine bl_drew ?_ | with_reducible refine bl_reg ?_ _))
end Go.Proofs.YtgjieoljfcfacaaDoor
