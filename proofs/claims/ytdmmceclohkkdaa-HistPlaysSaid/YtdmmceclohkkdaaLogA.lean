/- Keys: which one is ahead, as the program and the document tell it. -/
import Derived.Test.YtdmmceclohkkdaaRows2
namespace Go.Proofs.Ytdmmceclohkkdaa
open Go.RowKit Go.Sort
set_option maxHeartbeats 1000000
set_option maxRecDepth 100000

/-- A key: a time, a node, a number. -/
structure KW where
  t : Int
  f : Int
  s : Int
deriving DecidableEq
abbrev KW.val (k : KW) : Value := .agg #[.int .i64 k.t, .int .i64 k.f, .int .u32 k.s]
def cmpI (x y : Int) : Int := if x < y then -1 else if y < x then 1 else 0
theorem cmpI_lt {x y : Int} (h : x < y) : cmpI x y = -1 := by unfold cmpI; rw [if_pos h]
theorem cmpI_gt {x y : Int} (h : y < x) : cmpI x y = 1 := by unfold cmpI; rw [if_neg (by omega), if_pos h]
theorem cmpI_eq (x : Int) : cmpI x x = 0 := by unfold cmpI; rw [if_neg (by omega), if_neg (by omega)]
theorem cmp64_any (x y : Int) (w : World) : Calls Try.prog 99 #[.int .i64 x, .int .i64 y] w (fun e w' => e = .returned (.int .i64 (cmpI x y)) ∧ w = w') := by
  rcases Int.lt_trichotomy x y with h | rfl | h
  · rw [cmpI_lt h]
    go_enter Try.func99, Try.ntmps99
    go_wp2
    go_ret
    exact ⟨rfl, rfl⟩
  · rw [cmpI_eq]
    go_enter Try.func99, Try.ntmps99
    go_wp2
    go_ret
    exact ⟨rfl, rfl⟩
  · rw [cmpI_gt h]
    go_enter Try.func99, Try.ntmps99
    go_wp2
    go_ret
    exact ⟨rfl, rfl⟩
theorem cmpi_any (x y : Int) (w : World) : Calls Try.prog 100 #[.int .i64 x, .int .i64 y] w (fun e w' => e = .returned (.int .i64 (cmpI x y)) ∧ w = w') := by
  rcases Int.lt_trichotomy x y with h | rfl | h
  · rw [cmpI_lt h]
    go_enter Try.func100, Try.ntmps100
    go_wp2
    go_ret
    exact ⟨rfl, rfl⟩
  · rw [cmpI_eq]
    go_enter Try.func100, Try.ntmps100
    go_wp2
    go_ret
    exact ⟨rfl, rfl⟩
  · rw [cmpI_gt h]
    go_enter Try.func100, Try.ntmps100
    go_wp2
    go_ret
    exact ⟨rfl, rfl⟩
theorem cmp32_any (x y : Int) (w : World) : Calls Try.prog 101 #[.int .u32 x, .int .u32 y] w (fun e w' => e = .returned (.int .i64 (cmpI x y)) ∧ w = w') := by
  rcases Int.lt_trichotomy x y with h | rfl | h
  · rw [cmpI_lt h]
    go_enter Try.func101, Try.ntmps101
    go_wp2
    go_ret
    exact ⟨rfl, rfl⟩
  · rw [cmpI_eq]
    go_enter Try.func101, Try.ntmps101
    go_wp2
    go_ret
    exact ⟨rfl, rfl⟩
  · rw [cmpI_gt h]
    go_enter Try.func101, Try.ntmps101
    go_wp2
    go_ret
    exact ⟨rfl, rfl⟩

/-- The first one that is not 0. -/
def orI (a b c : Int) : Int := if a ≠ 0 then a else if b ≠ 0 then b else c
theorem or_any (a b c : Int) (g : Nat) (w : World) (h0 : w.cell? ⟨g, 0, none⟩ = some (.int .i64 a)) (h1 : w.cell? ⟨g, 1, none⟩ = some (.int .i64 b)) (h2 : w.cell? ⟨g, 2, none⟩ = some (.int .i64 c)) :
    Calls Try.prog 98 #[.slice (some ⟨g, 0, none⟩) 3 3] w (fun e w' => e = .returned (.int .i64 (orI a b c)) ∧ w = w') := by
  obtain ⟨r, er⟩ : ∃ r, orI a b c = r := ⟨_, rfl⟩
  have ER := Lib.hid er
  rw [er]
  clear er
  go_enter Try.func98, Try.ntmps98
  go_wp2_with fail
  go_loop [5, 8] (fun _ kv => ∃ k : Nat, kv = .int .i64 (k : Int) ∧ k ≤ 3 ∧ (0 < k → a = 0) ∧ (1 < k → b = 0) ∧ (2 < k → c = 0)) (fun _ kv => 3 - (intOf kv).toNat)
  case atStart => exact ⟨0, rfl, by omega, by omega, by omega, by omega⟩
  case round =>
    obtain ⟨k, rfl, hk, ha, hb, hc⟩ := hrel
    have : k = 0 ∨ k = 1 ∨ k = 2 ∨ k = 3 := by omega
    rcases this with rfl | rfl | rfl | rfl
    · by_cases hz : a = 0
      · have hz1 : (a != 0) = false := by simp [hz]
        have HZ := Lib.hid hz
        clear ha hb hc hz
        go_wp2_with fail
        go_round
        case rel => exact ⟨1, rfl, by omega, fun _ => HZ.out, by omega, by omega⟩
        case measure => simp [intOf]
      · have hz1 : (a != 0) = true := by simp [hz]
        have hr : r = a := by rw [← ER.out]; unfold orI; rw [if_pos hz]
        have HR := Lib.hid hr
        clear ha hb hc hz hr
        go_wp2_with fail
        go_ret
        exact ⟨by rw [HR.out]; rfl, rfl⟩
    · have ha0 := Lib.hid (ha (by omega))
      by_cases hz : b = 0
      · have hz1 : (b != 0) = false := by simp [hz]
        have HZ := Lib.hid hz
        clear ha hb hc hz
        go_wp2_with fail
        go_round
        case rel => exact ⟨2, rfl, by omega, fun _ => ha0.out, fun _ => HZ.out, by omega⟩
        case measure => simp [intOf]
      · have hz1 : (b != 0) = true := by simp [hz]
        have hr : r = b := by rw [← ER.out]; unfold orI; rw [if_neg (by simp [ha0.out]), if_pos hz]
        have HR := Lib.hid hr
        clear ha hb hc hz hr
        go_wp2_with fail
        go_ret
        exact ⟨by rw [HR.out]; rfl, rfl⟩
    · have ha0 := Lib.hid (ha (by omega))
      have hb0 := Lib.hid (hb (by omega))
      by_cases hz : c = 0
      · have hz1 : (c != 0) = false := by simp [hz]
        have HZ := Lib.hid hz
        clear ha hb hc hz
        go_wp2_with fail
        go_round
        case rel => exact ⟨3, rfl, by omega, fun _ => ha0.out, fun _ => hb0.out, fun _ => HZ.out⟩
        case measure => simp [intOf]
      · have hz1 : (c != 0) = true := by simp [hz]
        have hr : r = c := by rw [← ER.out]; unfold orI; rw [if_neg (by simp [ha0.out]), if_neg (by simp [hb0.out])]
        have HR := Lib.hid hr
        clear ha hb hc hz hr
        go_wp2_with fail
        go_ret
        exact ⟨by rw [HR.out]; rfl, rfl⟩
    · have hr : r = 0 := by rw [← ER.out]; unfold orI; rw [if_neg (by simp [ha (by omega)]), if_neg (by simp [hb (by omega)])]; exact hc (by omega)
      have HR := Lib.hid hr
      clear ha hb hc hr
      go_wp2_with fail
      go_ret
      exact ⟨by rw [HR.out]; rfl, rfl⟩

/-- Which key is ahead: -1, 0, 1. -/
def cmpK (a b : KW) : Int := orI (cmpI a.t b.t) (cmpI a.f b.f) (cmpI a.s b.s)
theorem kcmp_any (a b : KW) (w : World) : Calls Try.prog 89 #[a.val, b.val] w (RetV w (.int .i64 (cmpK a b))) := by
  have h1 := fun W => cmp64_any a.t b.t W
  have h2 := fun W => cmpi_any a.f b.f W
  have h3 := fun W => cmp32_any a.s b.s W
  have h4 := fun g W h0 h1 h2 => or_any (cmpI a.t b.t) (cmpI a.f b.f) (cmpI a.s b.s) g W h0 h1 h2
  rw [show orI (cmpI a.t b.t) (cmpI a.f b.f) (cmpI a.s b.s) = cmpK a b from rfl] at h4
  obtain ⟨x, ex⟩ : ∃ x, cmpI a.t b.t = x := ⟨_, rfl⟩
  obtain ⟨y, ey⟩ : ∃ x, cmpI a.f b.f = x := ⟨_, rfl⟩
  obtain ⟨z, ez⟩ : ∃ x, cmpI a.s b.s = x := ⟨_, rfl⟩
  obtain ⟨r, er⟩ : ∃ x, cmpK a b = x := ⟨_, rfl⟩
  rw [ex] at h1
  rw [ey] at h2
  rw [ez] at h3
  rw [ex, ey, ez, er] at h4
  rw [er]
  have H1 := Lib.hid h1
  have H2 := Lib.hid h2
  have H3 := Lib.hid h3
  have H4 := Lib.hid h4
  clear h1 h2 h3 h4 ex ey ez er
  go_enter Try.func89, Try.ntmps89
  go_wp2_with fail
  refine wp_region_tail_drewN 15 (by kernel_rfl) (by kernel_rfl) (by kernel_rfl) (by kernel_rfl) ?_
  simp only [List.take_succ_cons, List.take_zero, List.drop_succ_cons, List.drop_zero]
  repeat (first | go_big_quiet_step ((first | (go_at_call 99; refine class_same (H1.out _) ⟨_, rfl⟩) | (go_at_call 100; refine class_same (H2.out _) ⟨_, rfl⟩) | (go_at_call 101; refine class_same (H3.out _) ⟨_, rfl⟩))) | quiet_step ((first | (go_at_call 99; refine class_same (H1.out _) ⟨_, rfl⟩) | (go_at_call 100; refine class_same (H2.out _) ⟨_, rfl⟩) | (go_at_call 101; refine class_same (H3.out _) ⟨_, rfl⟩))))
  refine wpQuiet_nil ?_
  intro _ hcw1
  obtain ⟨nq, hcw2⟩ := hcw1
  subst hcw2
  go_wp2_with fail
  refine (H4.out _ _ (by simp [go_sem]) (by simp [go_sem]) (by simp [go_sem])).mono ?_
  rintro e w' ⟨rfl, rfl⟩
  go_wp2_with fail
  go_ret
  exact ⟨rfl, by (repeat (first | with_reducible exact Below.refl _ _ | with_reducible refine bl_alloc ?_ _ | ((with_reducible refine bl_set ?_ ?_ _); rotate_left; (first | exact Nat.le_refl _ | exact Nat.le_succ_of_le (Nat.le_refl _) | (simp only []; omega))) | with_reducible refine bl_drewN ?_ _ | with_reducible refine bl_drew ?_ | with_reducible refine bl_reg ?_ _))⟩

/-- Is a key ahead of another one? -/
def lessK (a b : KW) : Bool := decide (cmpK a b < 0)
theorem less_lt {a b : KW} (h : a.t < b.t) : lessK a b = true := by unfold lessK cmpK orI; rw [cmpI_lt h]; rfl
theorem less_gt {a b : KW} (h : b.t < a.t) : lessK a b = false := by unfold lessK cmpK orI; rw [cmpI_gt h]; rfl
theorem rless_any (a b : KW) (w : World) : Calls Try.prog 46 #[a.val, b.val] w (RetV w (.bool (lessK a b))) := by
  obtain ⟨t, f, s⟩ := a
  obtain ⟨t', f', s'⟩ := b
  rcases Int.lt_trichotomy t t' with h | rfl | h
  · have hr : lessK ⟨t, f, s⟩ ⟨t', f', s'⟩ = true := by unfold lessK cmpK orI; rw [cmpI_lt h]; rfl
    rw [hr]
    clear hr
    go_enter Try.func46, Try.ntmps46
    go_wp2
    go_ret
    exact ⟨rfl, by (repeat (first | with_reducible exact Below.refl _ _ | with_reducible refine bl_alloc ?_ _ | ((with_reducible refine bl_set ?_ ?_ _); rotate_left; (first | exact Nat.le_refl _ | exact Nat.le_succ_of_le (Nat.le_refl _) | (simp only []; omega))) | with_reducible refine bl_drewN ?_ _ | with_reducible refine bl_drew ?_ | with_reducible refine bl_reg ?_ _))⟩
  · rcases Int.lt_trichotomy f f' with h | rfl | h
    · have hr : lessK ⟨t, f, s⟩ ⟨t, f', s'⟩ = true := by unfold lessK cmpK orI; rw [cmpI_eq, cmpI_lt h]; rfl
      rw [hr]
      clear hr
      go_enter Try.func46, Try.ntmps46
      go_wp2
      go_ret
      exact ⟨rfl, by (repeat (first | with_reducible exact Below.refl _ _ | with_reducible refine bl_alloc ?_ _ | ((with_reducible refine bl_set ?_ ?_ _); rotate_left; (first | exact Nat.le_refl _ | exact Nat.le_succ_of_le (Nat.le_refl _) | (simp only []; omega))) | with_reducible refine bl_drewN ?_ _ | with_reducible refine bl_drew ?_ | with_reducible refine bl_reg ?_ _))⟩
    · have hr : lessK ⟨t, f, s⟩ ⟨t, f, s'⟩ = decide (s < s') := by
        unfold lessK cmpK orI
        rw [cmpI_eq, cmpI_eq, if_neg (by simp), if_neg (by simp), decide_eq_decide]
        unfold cmpI
        show (if s < s' then (-1 : Int) else if s' < s then 1 else 0) < 0 ↔ s < s'
        split
        · simp_all
        · split <;> simp_all
      rw [hr]
      clear hr
      go_enter Try.func46, Try.ntmps46
      go_wp2
      go_ret
      exact ⟨rfl, by (repeat (first | with_reducible exact Below.refl _ _ | with_reducible refine bl_alloc ?_ _ | ((with_reducible refine bl_set ?_ ?_ _); rotate_left; (first | exact Nat.le_refl _ | exact Nat.le_succ_of_le (Nat.le_refl _) | (simp only []; omega))) | with_reducible refine bl_drewN ?_ _ | with_reducible refine bl_drew ?_ | with_reducible refine bl_reg ?_ _))⟩
    · have hr : lessK ⟨t, f, s⟩ ⟨t, f', s'⟩ = false := by unfold lessK cmpK orI; rw [cmpI_eq, cmpI_gt h]; rfl
      rw [hr]
      clear hr
      go_enter Try.func46, Try.ntmps46
      go_wp2
      go_ret
      exact ⟨ret_bool (decide_eq_false (by omega)), by (repeat (first | with_reducible exact Below.refl _ _ | with_reducible refine bl_alloc ?_ _ | ((with_reducible refine bl_set ?_ ?_ _); rotate_left; (first | exact Nat.le_refl _ | exact Nat.le_succ_of_le (Nat.le_refl _) | (simp only []; omega))) | with_reducible refine bl_drewN ?_ _ | with_reducible refine bl_drew ?_ | with_reducible refine bl_reg ?_ _))⟩
  · have hr : lessK ⟨t, f, s⟩ ⟨t', f', s'⟩ = false := by unfold lessK cmpK orI; rw [cmpI_gt h]; rfl
    rw [hr]
    clear hr
    go_enter Try.func46, Try.ntmps46
    go_wp2
    go_ret
    exact ⟨ret_bool (decide_eq_false (by omega)), by (repeat (first | with_reducible exact Below.refl _ _ | with_reducible refine bl_alloc ?_ _ | ((with_reducible refine bl_set ?_ ?_ _); rotate_left; (first | exact Nat.le_refl _ | exact Nat.le_succ_of_le (Nat.le_refl _) | (simp only []; omega))) | with_reducible refine bl_drewN ?_ _ | with_reducible refine bl_drew ?_ | with_reducible refine bl_reg ?_ _))⟩
theorem kless_any (a b : KW) (w : World) : Calls Try.prog 94 #[a.val, b.val] w (RetV w (.bool (lessK a b))) := by
  have HK := Lib.hid (fun W => kcmp_any a b W)
  have hr : lessK a b = decide (cmpK a b < 0) := rfl
  rw [hr]
  obtain ⟨r, er⟩ : ∃ r, cmpK a b = r := ⟨_, rfl⟩
  rw [er] at HK ⊢
  clear hr er
  go_enter Try.func94, Try.ntmps94
  go_wp2_with fail
  refine (HK.out _).mono ?_
  rintro e w1 ⟨rfl, hg⟩
  have HG := Lib.hid hg
  clear hg
  go_wp2_with fail
  go_ret
  exact ⟨rfl, grows_trans w _ _ (by show Below w.heap.size w _; (repeat (first | with_reducible exact Below.refl _ _ | with_reducible refine bl_alloc ?_ _ | ((with_reducible refine bl_set ?_ ?_ _); rotate_left; (first | exact Nat.le_refl _ | exact Nat.le_succ_of_le (Nat.le_refl _) | (simp only []; omega))) | with_reducible refine bl_drewN ?_ _ | with_reducible refine bl_drew ?_ | with_reducible refine bl_reg ?_ _))) HG.out⟩
end Go.Proofs.Ytdmmceclohkkdaa
