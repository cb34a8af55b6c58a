/- RelK: texts laid one behind the other. -/
import Derived.Test.YtgjieoljfcfacaaDoorRows2
import Derived.WideKeyRuns
import Derived.Laws.StructEq
import Derived.RangeFuncOwn
import Derived.Test.YtgjieoljfcfacaaDoorMisc
import Derived.Lib.Overlaps
import Derived.Laws.Externs
import Derived.Lib.AppendZeros
import Derived.Deep.AppendLies
import Derived.Shelf.RegionOpenPlain
import Derived.Lib.LazyBuf
/- Keys: which one is ahead, as the program and the document tell it. -/
namespace Go.Proofs.YtgjieoljfcfacaaDoor
open Go.RowKit Go.Sort
set_option maxHeartbeats 1000000
set_option maxRecDepth 100000

/-- A key: a time, a node, a number. -/
structure KW where
  t : Int
  f : Int
  s : Int
deriving DecidableEq
abbrev KW.val (k : KW) : Value := .agg #[.int .i64 k.t, .int .i64 k.f, .int .u32 k.s]
def cmpI (x y : Int) : Int := if x < y then -1 else if y < x then 1 else 0
theorem cmpI_lt {x y : Int} (h : x < y) : cmpI x y = -1 := by unfold cmpI; rw [if_pos h]
theorem cmpI_gt {x y : Int} (h : y < x) : cmpI x y = 1 := by unfold cmpI; rw [if_neg (by omega), if_pos h]
theorem cmpI_eq (x : Int) : cmpI x x = 0 := by unfold cmpI; rw [if_neg (by omega), if_neg (by omega)]
theorem cmp64_any (x y : Int) (w : World) : Calls Tryd.prog 93 #[.int .i64 x, .int .i64 y] w (fun e w' => e = .returned (.int .i64 (cmpI x y)) ∧ w = w') := by
  rcases Int.lt_trichotomy x y with h | rfl | h
  · rw [cmpI_lt h]
    go_enter Tryd.func93, Tryd.ntmps93
    go_wp2
    go_ret
    exact ⟨rfl, rfl⟩
  · rw [cmpI_eq]
    go_enter Tryd.func93, Tryd.ntmps93
    go_wp2
    go_ret
    exact ⟨rfl, rfl⟩
  · rw [cmpI_gt h]
    go_enter Tryd.func93, Tryd.ntmps93
    go_wp2
    go_ret
    exact ⟨rfl, rfl⟩
theorem cmpi_any (x y : Int) (w : World) : Calls Tryd.prog 94 #[.int .i64 x, .int .i64 y] w (fun e w' => e = .returned (.int .i64 (cmpI x y)) ∧ w = w') := by
  rcases Int.lt_trichotomy x y with h | rfl | h
  · rw [cmpI_lt h]
    go_enter Tryd.func94, Tryd.ntmps94
    go_wp2
    go_ret
    exact ⟨rfl, rfl⟩
  · rw [cmpI_eq]
    go_enter Tryd.func94, Tryd.ntmps94
    go_wp2
    go_ret
    exact ⟨rfl, rfl⟩
  · rw [cmpI_gt h]
    go_enter Tryd.func94, Tryd.ntmps94
    go_wp2
    go_ret
    exact ⟨rfl, rfl⟩
theorem cmp32_any (x y : Int) (w : World) : Calls Tryd.prog 95 #[.int .u32 x, .int .u32 y] w (fun e w' => e = .returned (.int .i64 (cmpI x y)) ∧ w = w') := by
  rcases Int.lt_trichotomy x y with h | rfl | h
  · rw [cmpI_lt h]
    go_enter Tryd.func95, Tryd.ntmps95
    go_wp2
    go_ret
    exact ⟨rfl, rfl⟩
  · rw [cmpI_eq]
    go_enter Tryd.func95, Tryd.ntmps95
    go_wp2
    go_ret
    exact ⟨rfl, rfl⟩
  · rw [cmpI_gt h]
    go_enter Tryd.func95, Tryd.ntmps95
    go_wp2
    go_ret
    exact ⟨rfl, rfl⟩

/-- The first one that is not 0. -/
def orI (a b c : Int) : Int := if a ≠ 0 then a else if b ≠ 0 then b else c
theorem or_any (a b c : Int) (g : Nat) (w : World) (h0 : w.cell? ⟨g, 0, none⟩ = some (.int .i64 a)) (h1 : w.cell? ⟨g, 1, none⟩ = some (.int .i64 b)) (h2 : w.cell? ⟨g, 2, none⟩ = some (.int .i64 c)) :
    Calls Tryd.prog 92 #[.slice (some ⟨g, 0, none⟩) 3 3] w (fun e w' => e = .returned (.int .i64 (orI a b c)) ∧ w = w') := by
  obtain ⟨r, er⟩ : ∃ r, orI a b c = r := ⟨_, rfl⟩
  have ER := Lib.hid er
  rw [er]
  clear er
  go_enter Tryd.func92, Tryd.ntmps92
  go_wp2_with fail
  go_loop [5, 8] (fun _ kv => ∃ k : Nat, kv = .int .i64 (k : Int) ∧ k ≤ 3 ∧ (0 < k → a = 0) ∧ (1 < k → b = 0) ∧ (2 < k → c = 0)) (fun _ kv => 3 - (intOf kv).toNat)
  case atStart => exact ⟨0, rfl, by omega, by omega, by omega, by omega⟩
  case round =>
    obtain ⟨k, rfl, hk, ha, hb, hc⟩ := hrel
    have : k = 0 ∨ k = 1 ∨ k = 2 ∨ k = 3 := by omega
    rcases this with rfl | rfl | rfl | rfl
    · by_cases hz : a = 0
      · have hz1 : (a != 0) = false := by simp [hz]
        have HZ := Lib.hid hz
        clear ha hb hc hz
        go_wp2_with fail
        go_round
        case rel => exact ⟨1, rfl, by omega, fun _ => HZ.out, by omega, by omega⟩
        case measure => simp [intOf]
      · have hz1 : (a != 0) = true := by simp [hz]
        have hr : r = a := by rw [← ER.out]; unfold orI; rw [if_pos hz]
        have HR := Lib.hid hr
        clear ha hb hc hz hr
        go_wp2_with fail
        go_ret
        exact ⟨by rw [HR.out]; rfl, rfl⟩
    · have ha0 := Lib.hid (ha (by omega))
      by_cases hz : b = 0
      · have hz1 : (b != 0) = false := by simp [hz]
        have HZ := Lib.hid hz
        clear ha hb hc hz
        go_wp2_with fail
        go_round
        case rel => exact ⟨2, rfl, by omega, fun _ => ha0.out, fun _ => HZ.out, by omega⟩
        case measure => simp [intOf]
      · have hz1 : (b != 0) = true := by simp [hz]
        have hr : r = b := by rw [← ER.out]; unfold orI; rw [if_neg (by simp [ha0.out]), if_pos hz]
        have HR := Lib.hid hr
        clear ha hb hc hz hr
        go_wp2_with fail
        go_ret
        exact ⟨by rw [HR.out]; rfl, rfl⟩
    · have ha0 := Lib.hid (ha (by omega))
      have hb0 := Lib.hid (hb (by omega))
      by_cases hz : c = 0
      · have hz1 : (c != 0) = false := by simp [hz]
        have HZ := Lib.hid hz
        clear ha hb hc hz
        go_wp2_with fail
        go_round
        case rel => exact ⟨3, rfl, by omega, fun _ => ha0.out, fun _ => hb0.out, fun _ => HZ.out⟩
        case measure => simp [intOf]
      · have hz1 : (c != 0) = true := by simp [hz]
        have hr : r = c := by rw [← ER.out]; unfold orI; rw [if_neg (by simp [ha0.out]), if_neg (by simp [hb0.out])]
        have HR := Lib.hid hr
        clear ha hb hc hz hr
        go_wp2_with fail
        go_ret
        exact ⟨by rw [HR.out]; rfl, rfl⟩
    · have hr : r = 0 := by rw [← ER.out]; unfold orI; rw [if_neg (by simp [ha (by omega)]), if_neg (by simp [hb (by omega)])]; exact hc (by omega)
      have HR := Lib.hid hr
      clear ha hb hc hr
      go_wp2_with fail
      go_ret
      exact ⟨by rw [HR.out]; rfl, rfl⟩

/-- Which key is ahead: -1, 0, 1. -/
def cmpK (a b : KW) : Int := orI (cmpI a.t b.t) (cmpI a.f b.f) (cmpI a.s b.s)
theorem kcmp_any (a b : KW) (w : World) : Calls Tryd.prog 85 #[a.val, b.val] w (RetV w (.int .i64 (cmpK a b))) := by
  have h1 := fun W => cmp64_any a.t b.t W
  have h2 := fun W => cmpi_any a.f b.f W
  have h3 := fun W => cmp32_any a.s b.s W
  have h4 := fun g W h0 h1 h2 => or_any (cmpI a.t b.t) (cmpI a.f b.f) (cmpI a.s b.s) g W h0 h1 h2
  rw [show orI (cmpI a.t b.t) (cmpI a.f b.f) (cmpI a.s b.s) = cmpK a b from rfl] at h4
  obtain ⟨x, ex⟩ : ∃ x, cmpI a.t b.t = x := ⟨_, rfl⟩
  obtain ⟨y, ey⟩ : ∃ x, cmpI a.f b.f = x := ⟨_, rfl⟩
  obtain ⟨z, ez⟩ : ∃ x, cmpI a.s b.s = x := ⟨_, rfl⟩
  obtain ⟨r, er⟩ : ∃ x, cmpK a b = x := ⟨_, rfl⟩
  rw [ex] at h1
  rw [ey] at h2
  rw [ez] at h3
  rw [ex, ey, ez, er] at h4
  rw [er]
  have H1 := Lib.hid h1
  have H2 := Lib.hid h2
  have H3 := Lib.hid h3
  have H4 := Lib.hid h4
  clear h1 h2 h3 h4 ex ey ez er
  go_enter Tryd.func85, Tryd.ntmps85
  go_wp2_with fail
  refine wp_region_tail_drewN 15 (by kernel_rfl) (by kernel_rfl) (by kernel_rfl) (by kernel_rfl) ?_
  simp only [List.take_succ_cons, List.take_zero, List.drop_succ_cons, List.drop_zero]
  repeat (first | go_big_quiet_step ((first | (go_at_call 93; refine class_same (H1.out _) ⟨_, rfl⟩) | (go_at_call 94; refine class_same (H2.out _) ⟨_, rfl⟩) | (go_at_call 95; refine class_same (H3.out _) ⟨_, rfl⟩))) | quiet_step ((first | (go_at_call 93; refine class_same (H1.out _) ⟨_, rfl⟩) | (go_at_call 94; refine class_same (H2.out _) ⟨_, rfl⟩) | (go_at_call 95; refine class_same (H3.out _) ⟨_, rfl⟩))))
  refine wpQuiet_nil ?_
  intro _ hcw1
  obtain ⟨nq, hcw2⟩ := hcw1
  subst hcw2
  go_wp2_with fail
  refine (H4.out _ _ (by simp [go_sem]) (by simp [go_sem]) (by simp [go_sem])).mono ?_
  rintro e w' ⟨rfl, rfl⟩
  go_wp2_with fail
  go_ret
  exact ⟨rfl, by (repeat (first | with_reducible exact Below.refl _ _ | with_reducible refine bl_alloc ?_ _ | ((with_reducible refine bl_set ?_ ?_ _); rotate_left; (first | exact Nat.le_refl _ | exact Nat.le_succ_of_le (Nat.le_refl _) | (simp only []; omega))) | with_reducible refine bl_drewN ?_ _ | with_reducible refine bl_drew ?_ | with_reducible refine bl_reg ?_ _))⟩

/-- Is a key ahead of another one? -/
def lessK (a b : KW) : Bool := decide (cmpK a b < 0)
theorem less_lt {a b : KW} (h : a.t < b.t) : lessK a b = true := by unfold lessK cmpK orI; rw [cmpI_lt h]; rfl
theorem less_gt {a b : KW} (h : b.t < a.t) : lessK a b = false := by unfold lessK cmpK orI; rw [cmpI_gt h]; rfl
theorem rless_any (a b : KW) (w : World) : Calls Tryd.prog 75 #[a.val, b.val] w (RetV w (.bool (lessK a b))) := by
  obtain ⟨t, f, s⟩ := a
  obtain ⟨t', f', s'⟩ := b
  rcases Int.lt_trichotomy t t' with h | rfl | h
  · have hr : lessK ⟨t, f, s⟩ ⟨t', f', s'⟩ = true := by unfold lessK cmpK orI; rw [cmpI_lt h]; rfl
    rw [hr]
    clear hr
    go_enter Tryd.func75, Tryd.ntmps75
    go_wp2
    go_ret
    exact ⟨rfl, by (repeat (first | with_reducible exact Below.refl _ _ | with_reducible refine bl_alloc ?_ _ | ((with_reducible refine bl_set ?_ ?_ _); rotate_left; (first | exact Nat.le_refl _ | exact Nat.le_succ_of_le (Nat.le_refl _) | (simp only []; omega))) | with_reducible refine bl_drewN ?_ _ | with_reducible refine bl_drew ?_ | with_reducible refine bl_reg ?_ _))⟩
  · rcases Int.lt_trichotomy f f' with h | rfl | h
    · have hr : lessK ⟨t, f, s⟩ ⟨t, f', s'⟩ = true := by unfold lessK cmpK orI; rw [cmpI_eq, cmpI_lt h]; rfl
      rw [hr]
      clear hr
      go_enter Tryd.func75, Tryd.ntmps75
      go_wp2
      go_ret
      exact ⟨rfl, by (repeat (first | with_reducible exact Below.refl _ _ | with_reducible refine bl_alloc ?_ _ | ((with_reducible refine bl_set ?_ ?_ _); rotate_left; (first | exact Nat.le_refl _ | exact Nat.le_succ_of_le (Nat.le_refl _) | (simp only []; omega))) | with_reducible refine bl_drewN ?_ _ | with_reducible refine bl_drew ?_ | with_reducible refine bl_reg ?_ _))⟩
    · have hr : lessK ⟨t, f, s⟩ ⟨t, f, s'⟩ = decide (s < s') := by
        unfold lessK cmpK orI
        rw [cmpI_eq, cmpI_eq, if_neg (by simp), if_neg (by simp), decide_eq_decide]
        unfold cmpI
        show (if s < s' then (-1 : Int) else if s' < s then 1 else 0) < 0 ↔ s < s'
        split
        · simp_all
        · split <;> simp_all
      rw [hr]
      clear hr
      go_enter Tryd.func75, Tryd.ntmps75
      go_wp2
      go_ret
      exact ⟨rfl, by (repeat (first | with_reducible exact Below.refl _ _ | with_reducible refine bl_alloc ?_ _ | ((with_reducible refine bl_set ?_ ?_ _); rotate_left; (first | exact Nat.le_refl _ | exact Nat.le_succ_of_le (Nat.le_refl _) | (simp only []; omega))) | with_reducible refine bl_drewN ?_ _ | with_reducible refine bl_drew ?_ | with_reducible refine bl_reg ?_ _))⟩
    · have hr : lessK ⟨t, f, s⟩ ⟨t, f', s'⟩ = false := by unfold lessK cmpK orI; rw [cmpI_eq, cmpI_gt h]; rfl
      rw [hr]
      clear hr
      go_enter Tryd.func75, Tryd.ntmps75
      go_wp2
      go_ret
      exact ⟨ret_bool (decide_eq_false (by omega)), by (repeat (first | with_reducible exact Below.refl _ _ | with_reducible refine bl_alloc ?_ _ | ((with_reducible refine bl_set ?_ ?_ _); rotate_left; (first | exact Nat.le_refl _ | exact Nat.le_succ_of_le (Nat.le_refl _) | (simp only []; omega))) | with_reducible refine bl_drewN ?_ _ | with_reducible refine bl_drew ?_ | with_reducible refine bl_reg ?_ _))⟩
  · have hr : lessK ⟨t, f, s⟩ ⟨t', f', s'⟩ = false := by unfold lessK cmpK orI; rw [cmpI_gt h]; rfl
    rw [hr]
    clear hr
    go_enter Tryd.func75, Tryd.ntmps75
    go_wp2
    go_ret
    exact ⟨ret_bool (decide_eq_false (by omega)), by (repeat (first | with_reducible exact Below.refl _ _ | with_reducible refine bl_alloc ?_ _ | ((with_reducible refine bl_set ?_ ?_ _); rotate_left; (first | exact Nat.le_refl _ | exact Nat.le_succ_of_le (Nat.le_refl _) | (simp only []; omega))) | with_reducible refine bl_drewN ?_ _ | with_reducible refine bl_drew ?_ | with_reducible refine bl_reg ?_ _))⟩
end Go.Proofs.YtgjieoljfcfacaaDoor
/- A map whose keys are api.Keys, at the block itself: what it holds of each key. -/
namespace Go.Proofs.YtgjieoljfcfacaaDoor
open Go.RowKit Go.Sort
set_option maxHeartbeats 1000000
set_option maxRecDepth 100000

theorem beq_int (a b : Int) : (a == b) = decide (a = b) := by by_cases h : a = b <;> simp [h]
theorem map_eraseIdx' {α β : Type} (f : α → β) : ∀ (l : List α) (j : Nat), (l.eraseIdx j).map f = (l.map f).eraseIdx j
  | [], _ => rfl
  | _ :: _, 0 => rfl
  | a :: l, j + 1 => by simp [map_eraseIdx' f l j]
theorem key_equal (x y : KW) (w : World) : (Op.equal 29 x.val y.val).run Tryd.prog w = .ok (decide (x = y)) w := by
  have h := run_eql_struct (P := Tryd.prog) w 29 #[.int .i64 x.t, .int .i64 x.f, .int .u32 x.s] #[.int .i64 y.t, .int .i64 y.f, .int .u32 y.s]
  obtain ⟨t, f, s⟩ := x
  obtain ⟨t', f', s'⟩ := y
  unfold Op.equal Op.maxDepth
  by_cases h1 : t = t' <;> by_cases h2 : f = f' <;> by_cases h3 : s = s' <;> simp [go_sem, h1, h2, h3]
theorem check_int {P : Program} (em : Bool) (n : Nat) (t : TypeId) (k k' : IntKind) (i : Int) (w : World) (h : P.underlying t = some (.int k)) : (Instr.checkKey em (n + 1) t (.int k' i)).run P w = .ok () w := by
  simp [Instr.checkKey, run_underlying h]
theorem key_check (em : Bool) (x : KW) (w : World) : (Instr.checkKey em 10000 29 x.val).run Tryd.prog w = .ok () w := by
  have h1 := check_int (P := Tryd.prog) em 9998 2 .i64 .i64 x.t w Tryd.underlying2
  have h2 := check_int (P := Tryd.prog) em 9998 3 .i64 .i64 x.f w Tryd.underlying3
  have h3 := check_int (P := Tryd.prog) em 9998 27 .u32 .u32 x.s w Tryd.underlying27
  simp only [Nat.reduceAdd] at h1 h2 h3
  rw [show (10000 : Nat) = 9999 + 1 from rfl, Instr.checkKey]
  simp [go_sem, h1, h2, h3]
theorem beq_keyval (x : KW) : Instr.sameBits 10000 x.val x.val = true := by
  rw [show (10000 : Nat) = 9999 + 1 from rfl]
  simp [Instr.sameBits]

/-- What a list of rows has of a key. -/
def getK {β : Type} (m : List (KW × β)) (x : KW) : Option β := (m.find? fun p => decide (x = p.1)).map (·.2)
theorem getK_nil {β : Type} (x : KW) : getK ([] : List (KW × β)) x = none := rfl
theorem getK_cons {β : Type} (p : KW × β) (m : List (KW × β)) (x : KW) : getK (p :: m) x = if x = p.1 then some p.2 else getK m x := by
  unfold getK
  rw [List.find?_cons]
  by_cases h : x = p.1 <;> simp [h]
theorem getK_none {β : Type} {m : List (KW × β)} {x : KW} : getK m x = none ↔ x ∉ m.map (·.1) := by
  induction m with
  | nil => simp [getK_nil]
  | cons p m ih =>
    rw [getK_cons]
    by_cases h : x = p.1 <;> simp [h]
    simpa using ih
theorem getK_some {β : Type} {m : List (KW × β)} (hn : (m.map (·.1)).Nodup) {x : KW} {v : β} : getK m x = some v ↔ (x, v) ∈ m := by
  induction m with
  | nil => simp [getK_nil]
  | cons p m ih =>
    rw [List.map_cons, List.nodup_cons] at hn
    rw [getK_cons]
    by_cases h : x = p.1
    · subst h
      simp only [if_true, Option.some.injEq, List.mem_cons]
      constructor
      · rintro rfl; exact .inl rfl
      · rintro (h | h)
        · rw [← h]
        · exact absurd (List.mem_map_of_mem (f := (·.1)) h) hn.1
    · rw [if_neg h, ih hn.2, List.mem_cons]
      constructor
      · exact .inr
      · rintro (h2 | h2)
        · exact absurd (by rw [← h2]) h
        · exact h2
theorem getK_perm {β : Type} {m n : List (KW × β)} (hp : m.Perm n) (hn : (m.map (·.1)).Nodup) (x : KW) : getK m x = getK n x := by
  have hn' : (n.map (·.1)).Nodup := (hp.map _).nodup_iff.1 hn
  cases h : getK m x with
  | none => rw [eq_comm, getK_none, ← (hp.map (·.1)).mem_iff, ← getK_none]; exact h
  | some v => rw [eq_comm, getK_some hn', ← hp.mem_iff, ← getK_some hn]; exact h
theorem getK_append {β : Type} (m n : List (KW × β)) (x : KW) : getK (m ++ n) x = (getK m x).or (getK n x) := by
  unfold getK
  rw [List.find?_append]
  cases m.find? fun p => decide (x = p.1) <;> simp

/-- The block b is a map that has of each key what g says. -/
def MapAt (w : World) (b : Nat) (g : KW → Option Value) : Prop :=
  ∃ (es : Array MapEntry) (clock : Nat) (m : List (KW × Value)), w.heap[b]? = some (.map es clock) ∧ es.toList.map (fun e => (e.key, e.val)) = m.map (fun p => (p.1.val, p.2)) ∧ (m.map (·.1)).Nodup ∧ ∀ x, getK m x = g x

theorem asking (x : KW) (w : World) : ∀ (es : List MapEntry) (m : List (KW × Value)), es.map (fun e => (e.key, e.val)) = m.map (fun p => (p.1.val, p.2)) → ∀ i,
    ((Instr.findAsking 29 x.val es i).run Tryd.prog w = .ok none w ∧ getK m x = none) ∨
    ∃ j v, (Instr.findAsking 29 x.val es i).run Tryd.prog w = .ok (some (i + j, v)) w ∧ m[j]? = some (x, v) ∧ getK m x = some v
  | [], m, h, i => by
    obtain rfl : m = [] := by simpa using h.symm
    exact .inl ⟨by simp [Instr.findAsking], rfl⟩
  | e :: es, [], h, i => by simp at h
  | e :: es, p :: m, h, i => by
    simp only [List.map_cons, List.cons.injEq, Prod.mk.injEq] at h
    obtain ⟨⟨h1, h2⟩, h3⟩ := h
    have hq := key_equal x p.1 w
    rw [getK_cons]
    unfold Instr.findAsking
    simp only [Sem.run_bind, h1, hq, Result.andThen_ok]
    by_cases hx : x = p.1
    · refine .inr ⟨0, p.2, ?_, ?_, by simp [hx]⟩
      · simp [hx, h2]
      · simp [hx]
    · simp only [hx, decide_false, Bool.false_eq_true, if_false]
      rcases asking x w es m h3 (i + 1) with ⟨h4, h5⟩ | ⟨j, v, h4, h5, h6⟩
      · exact .inl ⟨h4, h5⟩
      · exact .inr ⟨j + 1, v, by rw [h4]; congr 3; omega, by simpa using h5, h6⟩
theorem find_key (x : KW) (w : World) (es : List MapEntry) (m : List (KW × Value)) (h : es.map (fun e => (e.key, e.val)) = m.map (fun p => (p.1.val, p.2))) :
    ((Instr.findKey 29 x.val es).run Tryd.prog w = .ok none w ∧ getK m x = none) ∨
    ∃ j v, (Instr.findKey 29 x.val es).run Tryd.prog w = .ok (some (j, v)) w ∧ m[j]? = some (x, v) ∧ getK m x = some v := by
  have hk : (Instr.findKey 29 x.val es).run Tryd.prog w = (Instr.findAsking 29 x.val es).run Tryd.prog w := run_findKey_eq w (by kernel_rfl) x.val es
  rw [hk]
  rcases asking x w es m h 0 with h1 | ⟨j, v, h1, h2, h3⟩
  · exact .inl h1
  · exact .inr ⟨j, v, by rw [h1, Nat.zero_add], h2, h3⟩

theorem MapAt.lt {w : World} {b : Nat} {g : KW → Option Value} (h : MapAt w b g) : b < w.heap.size := by
  obtain ⟨es, cl, m, h1, _⟩ := h
  exact (Array.getElem?_eq_some_iff.1 h1).1
theorem MapAt.of_block {w w' : World} {b : Nat} {g : KW → Option Value} (h : MapAt w b g) (hb : w'.heap[b]? = w.heap[b]?) : MapAt w' b g := by
  obtain ⟨es, cl, m, h1, h2⟩ := h
  exact ⟨es, cl, m, by rw [hb, h1], h2⟩
theorem MapAt.chg {S : Nat → Prop} {w w' : World} {b : Nat} {g : KW → Option Value} (h : MapAt w b g) (hc : Chg S w w') (hs : ¬ S b) : MapAt w' b g := h.of_block (hc.block b h.lt hs)
theorem MapAt.grows {w w' : World} {b : Nat} {g : KW → Option Value} (h : MapAt w b g) (hg : Grows w w') : MapAt w' b g := h.of_block (hg.block b h.lt)
theorem MapAt.made (w : World) : MapAt (w.alloc (.map #[] 0)) w.heap.size (fun _ => none) := ⟨#[], 0, [], heap_alloc_new w _, rfl, List.nodup_nil, fun _ => rfl⟩

/-- What is looked up. -/
theorem MapAt.look {w : World} {b : Nat} {g : KW → Option Value} (h : MapAt w b g) {T E : TypeId} (hT : Tryd.prog.underlying T = some (.map 29 E)) {z : Value} (hz : (zeroValue E).run Tryd.prog w = .ok z w) (x : KW) (ok : Bool) :
    (Instr.lookup T (.map (some b)) x.val ok).run Tryd.prog w = .ok (if ok then .tuple #[(g x).getD z, .bool (g x).isSome] else (g x).getD z) w := by
  obtain ⟨es, cl, m, h1, h2, h3, h4⟩ := h
  have hc := key_check es.isEmpty x w
  have hf := find_key x w es.toList m h2
  rw [h4] at hf
  simp only [Instr.lookup, Sem.run_bind, run_underlying hT, Result.andThen_ok, MapKept.run_getObj_map h1, Sem.run_pure, hc]
  rcases hf with ⟨hf, hg⟩ | ⟨j, v, hf, -, hg⟩
  · simp only [hf, hg, Result.andThen_ok, Sem.run_bind, hz, Sem.run_pure]
    cases ok <;> rfl
  · simp only [hf, hg, Result.andThen_ok, Sem.run_bind, Sem.run_pure]
    cases ok <;> rfl
/-- A map that is nil. -/
theorem look_nil (w : World) {T E : TypeId} (hT : Tryd.prog.underlying T = some (.map 29 E)) {z : Value} (hz : (zeroValue E).run Tryd.prog w = .ok z w) (x : KW) (ok : Bool) :
    (Instr.lookup T (.map none) x.val ok).run Tryd.prog w = .ok (if ok then .tuple #[z, .bool false] else z) w := by
  have hc := key_check true x w
  have hf : (Instr.findKey 29 x.val (#[] : Array MapEntry).toList).run Tryd.prog w = .ok none w := by
    rcases find_key x w [] [] rfl with ⟨hf, -⟩ | ⟨j, v, -, h5, -⟩
    · exact hf
    · simp at h5
  simp only [Instr.lookup, Sem.run_bind, run_underlying hT, Result.andThen_ok, Sem.run_pure]
  rw [show (#[] : Array MapEntry).isEmpty = true from rfl, hc]
  simp only [hf, Result.andThen_ok, Sem.run_bind, hz, Sem.run_pure]
/-- A row is put in whose key is not there. -/
theorem MapAt.put {w : World} {b : Nat} {g : KW → Option Value} (h : MapAt w b g) {T E : TypeId} (hT : Tryd.prog.underlying T = some (.map 29 E)) (x : KW) (hx : g x = none) (v : Value) :
    ∃ o, (Instr.mapUpdate T (.map (some b)) x.val v).run Tryd.prog w = .ok () (w.putObj b o) ∧ o.isCells = false ∧ MapAt (w.putObj b o) b (fun y => if y = x then some v else g y) := by
  have hlt := h.lt
  obtain ⟨es, cl, m, h1, h2, h3, h4⟩ := h
  have hc := key_check false x w
  rcases find_key x w es.toList m h2 with ⟨hf, hg⟩ | ⟨j, v', hf, -, hg⟩
  · refine ⟨.map (es.push { key := x.val, val := v, born := cl }) (cl + 1), ?_, rfl, es.push { key := x.val, val := v, born := cl }, cl + 1, m ++ [(x, v)], World.putObj_heap_same hlt, by simp [h2], ?_, ?_⟩
    · simp only [Instr.mapUpdate, Sem.run_bind, run_underlying hT, Result.andThen_ok, MapKept.run_getObj_map h1, Sem.run_pure, hc, hf, MapKept.run_setObj_map _ h1]
      rfl
    · rw [List.map_append, List.nodup_append]
      exact ⟨h3, by simp, fun a ha c hc2 hac => by simp at hc2; subst hc2; subst hac; exact (getK_none.1 hg) ha⟩
    · intro y
      rw [getK_append, h4]
      by_cases hy : y = x
      · subst hy; rw [hx]; simp [getK_cons]
      · simp [getK_cons, getK_nil, hy]
  · rw [h4, hx] at hg; cases hg
/-- A row is taken out. -/
theorem MapAt.del {w : World} {b : Nat} {g : KW → Option Value} (h : MapAt w b g) {T E : TypeId} (hT : Tryd.prog.underlying T = some (.map 29 E)) (x : KW) (k ty : TypeId) :
    ∃ o, (Builtin.delete_ #[T, k] ty #[.map (some b), x.val]).run Tryd.prog w = .ok (.tuple #[]) (w.putObj b o) ∧ o.isCells = false ∧ MapAt (w.putObj b o) b (fun y => if y = x then none else g y) := by
  have hlt := h.lt
  obtain ⟨es, cl, m, h1, h2, h3, h4⟩ := h
  have hc := key_check es.isEmpty x w
  rcases find_key x w es.toList m h2 with ⟨hf, hg⟩ | ⟨j, v', hf, hj, hg⟩
  · refine ⟨.map es cl, ?_, rfl, es, cl, m, World.putObj_heap_same hlt, h2, h3, ?_⟩
    · simp [Builtin.delete_, Sem.run_bind, run_underlying hT, Result.andThen_ok, MapKept.run_getObj_map h1, Sem.run_pure, hc, hf, MapKept.run_setObj_map _ h1]
      rfl
    · intro y
      by_cases hy : y = x
      · subst hy; simp [hg]
      · simp [hy, h4]
  · have hjm : j < m.length := (List.getElem?_eq_some_iff.1 hj).1
    have hje : j < es.size := by have := congrArg List.length h2; simp at this; omega
    refine ⟨.map (es.eraseIdxIfInBounds j) cl, ?_, rfl, es.eraseIdxIfInBounds j, cl, m.eraseIdx j, World.putObj_heap_same hlt, ?_, ?_, ?_⟩
    · simp [Builtin.delete_, Sem.run_bind, run_underlying hT, Result.andThen_ok, MapKept.run_getObj_map h1, Sem.run_pure, hc, hf, MapKept.run_setObj_map _ h1]
      rfl
    · have e1 : (es.eraseIdxIfInBounds j).toList = es.toList.eraseIdx j := by simp [Array.eraseIdxIfInBounds, hje]
      rw [e1, map_eraseIdx', map_eraseIdx', h2]
    · rw [map_eraseIdx']; exact h3.eraseIdx _
    · intro y
      have hnd := h3
      show _ = if y = x then none else g y
      rw [← h4 y]
      by_cases hy : y = x
      · subst hy
        rw [if_pos rfl, getK_none, map_eraseIdx']
        intro hc
        have e1 : (m.map (·.1))[j]? = some y := by rw [List.getElem?_map, hj]; rfl
        obtain ⟨i, hi⟩ := List.getElem?_of_mem hc
        rw [List.getElem?_eraseIdx] at hi
        split at hi
        · have := (List.getElem?_inj (by simpa using Nat.lt_trans (by assumption) hjm) h3).1 (hi.trans e1.symm); omega
        · have h6 := (List.getElem?_eq_some_iff.1 hi).1
          have := (List.getElem?_inj h6 h3).1 (hi.trans e1.symm); omega
      · rw [if_neg hy]
        have e0 : m = m.take j ++ (x, v') :: m.drop (j + 1) := by
          rw [List.getElem?_eq_some_iff] at hj
          obtain ⟨q, hq⟩ := hj
          rw [← hq, ← List.drop_eq_getElem_cons q, List.take_append_drop]
        have e2 : m.eraseIdx j = m.take j ++ m.drop (j + 1) := List.eraseIdx_eq_take_drop_succ ..
        rw [e2, getK_append]
        conv => rhs; rw [e0]
        rw [getK_append, getK_cons, if_neg hy]
/-- All are taken out. -/
theorem MapAt.clear {w : World} {b : Nat} {g : KW → Option Value} (h : MapAt w b g) {T E : TypeId} (hT : Tryd.prog.underlying T = some (.map 29 E)) (ty : TypeId) :
    ∃ o, (Builtin.clear_ #[T] ty #[.map (some b)]).run Tryd.prog w = .ok (.tuple #[]) (w.putObj b o) ∧ o.isCells = false ∧ MapAt (w.putObj b o) b (fun _ => none) := by
  have hlt := h.lt
  obtain ⟨es, cl, m, h1, h2, h3, h4⟩ := h
  refine ⟨.map #[] cl, ?_, rfl, #[], cl, [], World.putObj_heap_same hlt, rfl, List.nodup_nil, fun _ => rfl⟩
  simp [Builtin.clear_, Sem.run_bind, run_underlying hT, Result.andThen_ok, MapKept.run_getObj_map h1, Sem.run_pure, MapKept.run_setObj_map _ h1]
  rfl
end Go.Proofs.YtgjieoljfcfacaaDoor
/- Slices of api.Keys: rows of three cells each. -/
namespace Go.Proofs.YtgjieoljfcfacaaDoor
open Go.RowKit Go.Sort
set_option maxHeartbeats 4000000
set_option maxRecDepth 100000

theorem Tryd.infoKey : (Tryd.prog.info? 29).map (fun i => (i.zero, i.size, i.bytes)) = some (some (.agg #[.int .i64 0, .int .i64 0, .int .u32 0]), 3, 24) := by kernel_rfl
abbrev kc (k : KW) : List Value := [.int .i64 k.t, .int .i64 k.f, .int .u32 k.s]
abbrev kvs (l : List KW) : List Value := l.flatMap kc
theorem kc_one : ∀ (k : KW), ∀ u ∈ kc k, u.oneCell' = true := by
  intro k u hu
  simp only [kc, List.mem_cons, List.not_mem_nil, or_false] at hu
  rcases hu with rfl | rfl | rfl <;> rfl
theorem kvs_one (l : List KW) : ∀ u ∈ kvs l, u.oneCell' = true := rows_one (f := kc) kc_one l
theorem kvs_length (l : List KW) : (kvs l).length = l.length * 3 := rows_length (f := kc) (k := 3) (fun _ => rfl) l
theorem kvs_append (l m : List KW) : kvs (l ++ m) = kvs l ++ kvs m := by simp [kvs]
theorem kvs_cons (k : KW) (m : List KW) : kvs (k :: m) = kc k ++ kvs m := rfl

/-- A slice of keys of its own. -/
abbrev KOwn (w : World) (base : Nat) (v : Value) (l : List KW) : Prop := w.ownsRow base 29 3 v l.length (kvs l)
/-- A slice of keys, wherever it lies. -/
def KHas (w : World) (v : Value) (l : List KW) : Prop := (l = [] ∧ ∃ a cap, v = .slice a 0 cap) ∨ ∃ g o cap, v = .slice (some ⟨g, o, none⟩) l.length cap ∧ l.length ≤ cap ∧ g < w.heap.size ∧ RAt kc 3 w g o l
theorem KHas.grows {w w' : World} {v : Value} {l : List KW} (h : KHas w v l) (hg : Grows w w') : KHas w' v l := by
  rcases h with h | ⟨g, o, cap, h1, h2, h3, h4⟩
  · exact .inl h
  · exact .inr ⟨g, o, cap, h1, h2, Nat.lt_of_lt_of_le h3 hg.size, h4.grows hg h3⟩
theorem kown_has {w : World} {base : Nat} {v : Value} {l : List KW} (h : KOwn w base v l) : KHas w v l := by
  rcases own_rows (f := kc) (k := 3) (fun _ => rfl) rfl h with ⟨rfl, rfl⟩ | ⟨g, cap, rfl, hc, _, hg, hat⟩
  · exact .inl ⟨rfl, none, 0, rfl⟩
  · exact .inr ⟨g, 0, cap, rfl, hc, hg, hat⟩
theorem KHas.form {w : World} {v : Value} {l : List KW} {n : Nat} (h : KHas w v l) (hn : l.length = n) (h0 : 0 < n) : ∃ g o cap, v = .slice (some ⟨g, o, none⟩) n cap ∧ n ≤ cap ∧ g < w.heap.size ∧ RAt kc 3 w g o l := by
  rcases h with ⟨rfl, _⟩ | ⟨g, o, cap, h1, h2, h3, h4⟩
  · simp at hn; omega
  · exact ⟨g, o, cap, by rw [h1, hn], by omega, h3, h4⟩
theorem KHas.len {w : World} {v : Value} {l : List KW} {n : Nat} (h : KHas w v l) (hn : l.length = n) : ∃ a cap, v = .slice a n cap := by
  rcases h with ⟨rfl, a, cap, rfl⟩ | ⟨g, o, cap, rfl, _, _⟩
  · exact ⟨a, cap, by rw [← hn]; rfl⟩
  · exact ⟨_, cap, by rw [hn]⟩
theorem kat_cells {w : World} {g o : Nat} {l : List KW} (h : RAt kc 3 w g o l) (i : Nat) (hi : i < l.length) : w.cell? ⟨g, o + i * 3, none⟩ = some (.int .i64 l[i].t) ∧ w.cell? ⟨g, o + i * 3 + 1, none⟩ = some (.int .i64 l[i].f) ∧ w.cell? ⟨g, o + i * 3 + 2, none⟩ = some (.int .u32 l[i].s) :=
  ⟨h i hi 0 (by omega), h i hi 1 (by omega), h i hi 2 (by omega)⟩
/-- A slice of keys that is no nil: its block. -/
theorem KOwn.form {w : World} {base : Nat} {v : Value} {l : List KW} (h : KOwn w base v l) (h0 : l ≠ []) : ∃ g cap R, v = .slice (some ⟨g, 0, none⟩) l.length cap ∧ base ≤ g ∧ w.heap[g]? = some (.cells (kvs l ++ R).toArray 29 (0, 0)) ∧ l.length ≤ cap ∧ cap ≤ maxLen ∧ (kvs l ++ R).length = cap * 3 := by
  rcases h.2 with ⟨-, h1⟩ | ⟨g, cap, cur, rfl, h1, h2, h3, h4, h5, h6⟩
  · exact absurd (List.eq_nil_of_length_eq_zero h1) h0
  · have he : kvs l ++ cur.toList.drop (l.length * 3) = cur.toList := by rw [← h6, List.take_append_drop]
    exact ⟨g, cap, cur.toList.drop (l.length * 3), rfl, h1, by rw [he]; exact h2, h3, h4, by rw [he]; simpa using h5⟩
theorem KOwn.of_cells {w : World} {base g cap : Nat} {l : List KW} {R : List Value} (hb : base ≤ g) (hg : w.heap[g]? = some (.cells (kvs l ++ R).toArray 29 (0, 0))) (hc : l.length ≤ cap) (hm : cap ≤ maxLen) (hs : (kvs l ++ R).length = cap * 3) {n : Nat} (hn : l.length = n) :
    KOwn w base (.slice (some ⟨g, 0, none⟩) n cap) l := by
  subst hn
  refine ⟨kvs_length l, .inr ⟨g, cap, _, rfl, hb, hg, hc, hm, by simpa using hs, ?_⟩⟩
  simp only [← kvs_length l, List.take_left]

theorem shift_list {α : Type} (A B R K : List α) (m : Nat) (hK : K.length = m) (hR : m ≤ R.length) (c1 : List α) (h1 : c1 = (A ++ B ++ R).take (A.length + m) ++ B ++ (A ++ B ++ R).drop (A.length + m + B.length)) :
    c1.take A.length ++ K ++ c1.drop (A.length + K.length) = A ++ K ++ B ++ R.drop m := by
  have hl : ((A ++ B ++ R).take (A.length + m)).length = A.length + m := by rw [List.length_take]; simp; omega
  have e1 : c1.take A.length = A := by
    rw [h1, List.append_assoc, List.take_append_of_le_length (by omega), List.take_take, Nat.min_eq_left (by omega), List.append_assoc, List.take_left]
  have e2 : c1.drop (A.length + m) = B ++ R.drop m := by
    rw [h1, List.append_assoc]
    have := List.drop_left (l₁ := (A ++ B ++ R).take (A.length + m)) (l₂ := B ++ (A ++ B ++ R).drop (A.length + m + B.length))
    rw [hl] at this
    rw [this]
    congr 1
    rw [show A.length + m + B.length = (A ++ B).length + m by simp; omega, List.drop_append]
    simp
  rw [e1, hK, e2]
  simp
theorem fill_list {α : Type} (A Z K B : List α) (hZ : K.length + B.length ≤ Z.length) (c1 : List α) (h1 : c1 = (A ++ Z).take A.length ++ K ++ (A ++ Z).drop (A.length + K.length)) :
    c1.take (A.length + K.length) ++ B ++ c1.drop (A.length + K.length + B.length) = A ++ K ++ B ++ Z.drop (K.length + B.length) := by
  have e1 : c1 = A ++ K ++ Z.drop K.length := by
    rw [h1, List.take_left, List.drop_append]
    simp
  rw [e1, ← List.length_append, List.take_left, List.drop_append]
  simp [List.drop_drop]

/-- 'copy' as one step, where its run is known. -/
theorem wpList_copy {P : Program} (w : World) {ops : Array Oper} {rest : List Oper} {o : Oper} {a : Act} {Q : Exit → Act → World → Prop} (hgd : o.guard = none) (d s : Operand) (t t' : TypeId)
    (ho : o.op = .call { callee := .builtin .copy, args := #[d, s], argTypes := #[t, t'] }) (v u : Value) (hd : a.eval d = v) (hs : a.eval s = u) {v' : Value} {w' : World}
    (hr : (Builtin.copy_ #[t, t'] o.type #[v, u]).run P w = .ok v' w') (h : wpList P ops Q rest (a.put o.dst v') w') : wpList P ops Q (o :: rest) a w :=
  wpList_plain hgd fun _ hK => by
    unfold Oper.wp execOp
    simp only [ho, resolve, invoke, builtin, Sem.run_bind, Sem.run_pure, Result.andThen_ok, List.map_toArray, List.map_cons, List.map_nil, hd, hs, hr]
    exact hK _ _ h
theorem step_copy {P : Program} {ops : Array Oper} {o : Oper} {a : Act} {w : World} {K : Act → World → Prop} {Q : Exit → Act → World → Prop} {E : Prop}
    (hg : o.guard = none) (d x : Operand) (dT sT : TypeId) (hop : o.op = Op.call { callee := Callee.builtin Builtin.copy, args := #[d, x], argTypes := #[dT, sT] })
    (v u : Value) (hd : a.eval d = v) (hx : a.eval x = u) {v' : Value} {w' : World} (hr : (Builtin.copy_ #[dT, sT] o.type #[v, u]).run P w = .ok v' w') (hK : K (a.put o.dst v') w') :
    if Region.wanted o (yielded ops a.tmps) = true then Oper.wp P o a w K Q else E := by
  have hw : Region.wanted o (yielded ops a.tmps) = true := by simp [Region.wanted, hg]
  rw [if_pos hw]
  unfold Oper.wp
  simp [execOp, hop, resolve, invoke, builtin, hd, hx, hr, Result.andThen]
  exact hK
theorem ob_slice (a : Option Addr) (n c c' : Nat) : (Value.slice a n c).ownBlock = (Value.slice a n c').ownBlock := by cases a <;> rfl
/-- What Insert leaves. -/
def KIns (w : World) (base : Nat) (v : Value) (l : List KW) (e : Ending) (w' : World) : Prop :=
  ∃ v', e = .returned v' ∧ KOwn w' base v' l ∧ Chg (fun j => v.ownBlock = some j) w w' ∧ ∀ j, v'.ownBlock = some j → v.ownBlock = some j ∨ w.heap.size ≤ j
theorem sizeKey (w : World) : (Go.sizeOf 29).run Tryd.prog w = .ok 3 w := by
  cases hq : Tryd.prog.info? 29 with
  | none => have := Tryd.infoKey; rw [hq] at this; cases this
  | some i =>
    have h := Tryd.infoKey
    rw [hq] at h
    simp only [Option.map_some, Option.some.injEq, Prod.mk.injEq] at h
    simp [Go.sizeOf, typeInfo, hq, h.2.1]
/-- At the end. -/
theorem kins_end {w : World} {base vb : Nat} {v : Value} {l : List KW} (k : KW) (h : KOwn w base v l) (hl : l.length ≤ 100000) (hvb : w.heap[vb]? = some (.cells #[.int .i64 k.t, .int .i64 k.f, .int .u32 k.s] 29 (0, 0))) (hbase : base ≤ w.heap.size) :
    Calls Tryd.prog 70 #[v, .int .i64 (l.length : Int), .slice (some ⟨vb, 0, none⟩) 1 1] w (KIns w base v (l ++ [k])) := by
  obtain ⟨i0, hi, hz⟩ : ∃ i, Tryd.prog.info? 29 = some i ∧ (i.zero, i.size, i.bytes) = (some (.agg #[.int .i64 0, .int .i64 0, .int .u32 0]), 3, 24) := Option.map_eq_some_iff.1 Tryd.infoKey
  simp only [Prod.mk.injEq] at hz
  obtain ⟨hz0, hz1, hz2⟩ := hz
  obtain ⟨n, en⟩ : ∃ n, l.length = n := ⟨_, rfl⟩
  obtain ⟨a, cap, rfl⟩ := (kown_has h).len en
  have hcap : n ≤ cap := by
    rcases kown_has h with ⟨rfl, a, c, h1⟩ | ⟨g, o, c, h1, h2, _⟩
    · simp at en; omega
    · cases h1; omega
  have HO := Lib.hid h
  have EN := Lib.hid en
  have HV := Lib.hid hvb
  have HL := Lib.hid hl
  have HB := Lib.hid hbase
  rw [en]
  clear h hl hvb en hbase
  have hnn : ((n : Int) = (n : Int)) = True := eq_self _
  have hle : (n : Int) ≤ (cap : Int) := Int.ofNat_le.2 hcap
  go_enter Tryd.func70, Tryd.ntmps70
  go_wp2_with (first | (at_builtin; refine wpList_append_lies _ rfl _ _ 119 rfl base 29 i0 _ 3 24 Tryd.underlying119 hi hz0 hz1 hz2 rfl (by decide) (.slice a n cap) l.length (kvs l) rfl ?c0 ⟨vb, 0, none⟩ 1 1 (kc k) rfl ?c1 ?c2 ?c3 ?c4 ?c5 ?c6 ?c7 _ rfl ?_))
  all_goals first
    | exact HO.out
    | exact HB.out
    | (have h1 := HL.out; unfold maxLen; omega)
    | (have h1 := HL.out; omega)
    | decide
    | (intro j u hj; exact (cell_in HV.out j (by simpa [kc] using hj)).1)
    | exact ⟨rfl, rfl, rfl⟩
    | skip
  all_goals (
    intro g c2 w' hown hgr hat _
    go_wp2_with fail
    go_ret
    have hgr' : w.grownBy w' (Value.slice a n cap).ownBlock := by rw [ob_slice a n cap n]; first | exact hgr | (rw [ob_slice a n n cap]; exact hgr)
    have hat' : (Value.slice a n cap).ownBlock = some g ∨ g = w.heap.size := by rw [ob_slice a n cap n]; first | exact hat | (rw [ob_slice a n n cap]; exact hat)
    refine ⟨.slice (some ⟨g, 0, none⟩) (l.length + 1) c2, rfl, ?_, Chg.ofRow hgr', ?_⟩
    · have h1 := hown
      rw [EN.out] at h1
      have e1 : (l ++ [k]).length = n + 1 := by rw [List.length_append, EN.out]; rfl
      have e2 : kvs (l ++ [k]) = kvs l ++ kc k := by rw [kvs_append, kvs_cons]; simp
      show w'.ownsRow base _ 3 _ (l ++ [k]).length (kvs (l ++ [k]))
      rw [e1, e2]
      first | exact h1 | (rw [EN.out]; exact h1)
    · intro j hj
      simp only [Value.ownBlock, Option.some.injEq] at hj
      subst hj
      rcases hat' with h | h
      · exact .inl h
      · exact .inr (Nat.le_of_eq h.symm))
/-- In the midst, with room for it. -/
theorem kins_room {w : World} {base vb g cap n i : Nat} {R : List Value} {l : List KW} (k : KW) (hn : l.length = n) (hi : i < n) (hl : n ≤ 100000) (hb : base ≤ g) (hg : w.heap[g]? = some (.cells (kvs l ++ R).toArray 29 (0, 0))) (hc : n < cap) (hm : cap ≤ maxLen) (hs : (kvs l ++ R).length = cap * 3)
    (hvb : w.heap[vb]? = some (.cells #[.int .i64 k.t, .int .i64 k.f, .int .u32 k.s] 29 (0, 0))) (hne : vb ≠ g) :
    Calls Tryd.prog 70 #[.slice (some ⟨g, 0, none⟩) n cap, .int .i64 (i : Int), .slice (some ⟨vb, 0, none⟩) 1 1] w (KIns w base (.slice (some ⟨g, 0, none⟩) n cap) (l.take i ++ k :: l.drop i)) := by
  obtain ⟨i0, hii, hz⟩ : ∃ i, Tryd.prog.info? 29 = some i ∧ (i.zero, i.size, i.bytes) = (some (.agg #[.int .i64 0, .int .i64 0, .int .u32 0]), 3, 24) := Option.map_eq_some_iff.1 Tryd.infoKey
  simp only [Prod.mk.injEq] at hz
  obtain ⟨hz0, hz1, hz2⟩ := hz
  have hov : ∀ lb cb, (callFunc 82 #[.slice (some ⟨vb, 0, none⟩) 1 1, .slice (some ⟨g, (i + 1) * 3, none⟩) lb cb]).run Tryd.prog w = .ok (.value (.bool false)) w := fun lb cb => by
    rw [run_callFunc_extern Tryd.func82 (by kernel_rfl) (by kernel_rfl) (by kernel_rfl) (e := Extern.SlicesOverlaps.overlaps #[119, 119] #[4]) (by kernel_rfl),
      Lib.run_overlaps_apart w 119 4 29 Tryd.underlying119 3 sizeKey ⟨vb, 0, none⟩ ⟨g, (i + 1) * 3, none⟩ 1 1 lb cb hne 29 29 3 (cap * 3)
        (by simp [World.shape?, hvb]) (by rw [← hs]; simp [World.shape?, hg]) (by omega) (by simp [World.frozen?, hvb]) (by simp [World.frozen?, hvb])]
    rfl
  -- the two copies
  obtain ⟨A, eA⟩ : ∃ A, kvs (l.take i) = A := ⟨_, rfl⟩
  obtain ⟨B, eB⟩ : ∃ B, kvs (l.drop i) = B := ⟨_, rfl⟩
  have hAB : kvs l = A ++ B := by rw [← eA, ← eB, ← kvs_append, List.take_append_drop]
  have hAl : A.length = i * 3 := by rw [← eA, kvs_length, List.length_take]; omega
  have hBl : B.length = (n - i) * 3 := by rw [← eB, kvs_length, List.length_drop, hn]
  have hRl : 3 ≤ R.length := by rw [List.length_append, hAB, List.length_append] at hs; omega
  rw [hAB] at hg hs
  obtain ⟨c1, e1⟩ : ∃ c1, c1 = (A ++ B ++ R).take (A.length + 3) ++ B ++ (A ++ B ++ R).drop (A.length + 3 + B.length) := ⟨_, rfl⟩
  have hshift := shift_list A B R (kc k) 3 rfl hRl c1 e1
  rw [show (kc k).length = 3 from rfl] at hshift
  have hB1 : ∀ u ∈ B, u.oneCell' = true := by rw [← eB]; exact kvs_one _
  have hc1l : c1.length = cap * 3 := by rw [e1, ← hs]; simp; omega
  have hcp1 : ∀ ty dc sc, (Builtin.copy_ #[119, 119] ty #[.slice (some ⟨g, (i + 1) * 3, none⟩) (n - i) dc, .slice (some ⟨g, i * 3, none⟩) (n + 1 - i) sc]).run Tryd.prog w.drew = .ok (goInt ((n - i : Nat) : Int)) (w.drew.setRow g c1.toArray) := fun ty dc sc => by
    have := run_copy_block w.drew 119 119 ty 29 i0 Tryd.underlying119 hii g ((i + 1) * 3) (n - i) dc (A ++ B ++ R).toArray hg ⟨g, i * 3, none⟩ (n + 1 - i) sc (n - i) B (by simp only [Nat.min_def]; split <;> omega) (by rw [hz1]; exact hBl)
      (fun j u hj => by
        rw [addr_add]
        show w.cell? ⟨g, i * 3 + j, none⟩ = some u
        have : (A ++ B ++ R)[i * 3 + j]? = some u := by
          rw [List.append_assoc, List.getElem?_append_right (by omega), hAl, Nat.add_sub_cancel_left, List.getElem?_append_left (List.getElem?_eq_some_iff.1 hj).1]; exact hj
        exact (cell_in hg _ (by simpa using this)).1) hB1 (by simp; omega)
    rw [this, e1, hAl, show (i + 1) * 3 = i * 3 + 3 by omega]
  obtain ⟨W1, eW⟩ : ∃ W1, w.drew.setRow g c1.toArray = W1 := ⟨_, rfl⟩
  have hg1 : W1.heap[g]? = some (.cells c1.toArray 29 (0, 0)) := by rw [← eW]; exact setRow_heap w.drew g _ _ _ _ hg
  have hvb1 : W1.heap[vb]? = some (.cells #[.int .i64 k.t, .int .i64 k.f, .int .u32 k.s] 29 (0, 0)) := by rw [← eW, setRow_other _ _ _ _ hne]; exact hvb
  obtain ⟨c2, e2⟩ : ∃ c2, c2 = c1.take (i * 3) ++ kc k ++ c1.drop (i * 3 + 3) := ⟨_, rfl⟩
  have hcp2 : ∀ ty dc, (Builtin.copy_ #[119, 119] ty #[.slice (some ⟨g, i * 3, none⟩) (n + 1 - i) dc, .slice (some ⟨vb, 0, none⟩) 1 1]).run Tryd.prog W1 = .ok (goInt 1) (W1.setRow g c2.toArray) := fun ty dc => by
    have := run_copy_block W1 119 119 ty 29 i0 Tryd.underlying119 hii g (i * 3) (n + 1 - i) dc c1.toArray hg1 ⟨vb, 0, none⟩ 1 1 1 (kc k) (by simp only [Nat.min_def]; split <;> omega) (by rw [hz1]; rfl)
      (fun j u hj => by rw [addr_add]; exact (cell_in hvb1 _ (by simpa [kc] using hj)).1) (kc_one k) (by simp; omega)
    rw [this, e2]
    rfl
  have hc2 : c2 = kvs (l.take i ++ k :: l.drop i) ++ R.drop 3 := by
    rw [e2, ← hAl, hshift, kvs_append, kvs_cons, eA, eB]
    simp
  have hend : KIns w base (.slice (some ⟨g, 0, none⟩) n cap) (l.take i ++ k :: l.drop i) (.returned (.slice (some ⟨g, 0, none⟩) (n + 1) cap)) (W1.setRow g c2.toArray) := by
    refine ⟨_, rfl, KOwn.of_cells (R := R.drop 3) hb (by rw [← hc2]; exact setRow_heap W1 g _ _ _ _ hg1) ?_ hm ?_ ?_, ?_, fun j hj => .inl hj⟩
    · simp; omega
    · rw [← hc2, e2]; simp; omega
    · simp; omega
    · rw [← eW]
      exact Chg.setRow (S := fun j => some g = some j) (Chg.setRow (Chg.drew (Chg.refl _ _)) _ (.inr rfl)) _ (.inr rfl)
  have HEND := Lib.hid hend
  rw [eW] at hcp1
  have hq1 : ((i : Int) = (n : Int)) = False := eq_false (by omega)
  have hq2 : (((n + 1 : Nat) : Int) > (cap : Int)) = False := eq_false (by omega)
  have hq3 : (cap = i) = False := eq_false (by omega)
  have hq4 : (cap = i + 1) = False := eq_false (by omega)
  have hq5 : i ≤ n := Nat.le_of_lt hi
  have hq6 : n + 1 ≤ cap := hc
  have hq7 : i + 1 ≤ n + 1 := Nat.succ_le_succ hq5
  have hq8 : i ≤ n + 1 := Nat.le_succ_of_le hq5
  have hq9 : i ≤ cap := Nat.le_trans hq8 hq6
  have hw1 : wrap64 ((n : Int) + 1) = ((n + 1 : Nat) : Int) := wrap_succ (Nat.le_trans hl (by decide))
  have hw2 : wrap64 ((i : Int) + 1) = ((i + 1 : Nat) : Int) := wrap_succ (Nat.le_trans (Nat.le_of_lt hi) (Nat.le_trans hl (by decide)))
  have mixed : Tryd.prog.follows .mixedOrders = true := by kernel_rfl
  have hy1 : (0 : Int) ≤ (i : Int) + 1 := Int.natCast_nonneg (i + 1)
  have hy2 : (i : Int) + 1 ≤ (n : Int) + 1 := Int.ofNat_le.2 (Nat.succ_le_succ hq5)
  have hy3 : ((i : Int) + 1).toNat = i + 1 := Int.toNat_natCast (i + 1)
  have hy4 : IntKind.i64.wrap ((i : Int) + 1) = (i : Int) + 1 := (wrapEq _).trans (wrap_succ (Nat.le_trans (Nat.le_of_lt hi) (Nat.le_trans hl (by decide))))
  have hy5 : (i : Int) ≤ (n : Int) + 1 := Int.ofNat_le.2 hq8
  clear hend hc2 e2 e1 hshift hB1 hc1l hRl hAl hBl hAB eA eB hg hs hm hg1 hvb1 hvb hl eW
  go_enter Tryd.func70, Tryd.ntmps70
  go_wp2_with (simp only [hov])
  go_region_law_o (refine step_copy rfl _ _ 119 119 rfl _ _ (by simp [Act.eval, Act.put]) (by simp [Act.eval, Act.put]) (hcp1 _ _ _) ?_)
  go_wp2_with (at_builtin; refine wpList_copy _ rfl _ _ 119 119 rfl _ _ rfl rfl (hcp2 _ _) ?_)
  go_ret
  exact HEND.out
end Go.Proofs.YtgjieoljfcfacaaDoor
/- slices.Insert at keys: with no room. -/
namespace Go.Proofs.YtgjieoljfcfacaaDoor
open Go.RowKit Go.Sort
set_option maxHeartbeats 4000000
set_option maxRecDepth 100000
def Held (p : Prop) : Prop := p
theorem held {p : Prop} (h : Held p) : p := h
/-- In the midst, with no room for it: a new row. -/
theorem kins_grow {w : World} {base vb g cap n i : Nat} {R : List Value} {l : List KW} (k : KW) (hn : l.length = n) (hi : i < n) (hl : n ≤ 100000) (hb : base ≤ w.heap.size) (hg : w.heap[g]? = some (.cells (kvs l ++ R).toArray 29 (0, 0))) (hc : cap < n + 1) (hnc : n ≤ cap)
    (hvb : w.heap[vb]? = some (.cells #[.int .i64 k.t, .int .i64 k.f, .int .u32 k.s] 29 (0, 0))) :
    Calls Tryd.prog 70 #[.slice (some ⟨g, 0, none⟩) n cap, .int .i64 (i : Int), .slice (some ⟨vb, 0, none⟩) 1 1] w (KIns w base (.slice (some ⟨g, 0, none⟩) n cap) (l.take i ++ k :: l.drop i)) := by
  obtain ⟨i0, hii, hz⟩ : ∃ i, Tryd.prog.info? 29 = some i ∧ (i.zero, i.size, i.bytes) = (some (.agg #[.int .i64 0, .int .i64 0, .int .u32 0]), 3, 24) := Option.map_eq_some_iff.1 Tryd.infoKey
  simp only [Prod.mk.injEq] at hz
  obtain ⟨hz0, hz1, hz2⟩ := hz
  obtain ⟨m, em⟩ : ∃ m, i + m = n + 1 := ⟨n + 1 - i, by omega⟩
  obtain ⟨A, eA⟩ : ∃ A, kvs (l.take i) = A := ⟨_, rfl⟩
  obtain ⟨B, eB⟩ : ∃ B, kvs (l.drop i) = B := ⟨_, rfl⟩
  have hAB : kvs l = A ++ B := by rw [← eA, ← eB, ← kvs_append, List.take_append_drop]
  have hAl : A.length = i * 3 := by rw [← eA, kvs_length, List.length_take]; omega
  have hBl : B.length = (n - i) * 3 := by rw [← eB, kvs_length, List.length_drop, hn]
  have hB1 : ∀ u ∈ B, u.oneCell' = true := by rw [← eB]; exact kvs_one _
  rw [hAB] at hg
  obtain ⟨G, eG⟩ : ∃ G, w.heap.size = G := ⟨_, rfl⟩
  obtain ⟨C2, eC⟩ : ∃ C2, grownCap w (n + 1) cap 29 = C2 := ⟨_, rfl⟩
  have hC1 : n + 1 ≤ C2 := by rw [← eC]; exact grownCap_ge _ _ _ _
  have hC2 : C2 ≤ maxLen := by rw [← eC]; exact grownCap_le_maxLen _ _ _ _ (by unfold maxLen; omega)
  obtain ⟨Z, eZ⟩ : ∃ Z : List Value, (Builtin.zeroCells #[.int .i64 0, .int .i64 0, .int .u32 0] m ++ Builtin.zeroCells #[.int .i64 0, .int .i64 0, .int .u32 0] (C2 - (n + 1))).toList = Z := ⟨_, rfl⟩
  have hZl : Z.length = (m + (C2 - (n + 1))) * 3 := by rw [← eZ]; simp [size_zeroCells]; omega
  have hgl : g < w.heap.size := (Array.getElem?_eq_some_iff.1 hg).1
  have hvl : vb < w.heap.size := (Array.getElem?_eq_some_iff.1 hvb).1
  have hap : ∀ ty, (Builtin.append_ #[119, 3] ty #[.slice (some ⟨g, 0, none⟩) i cap, .int .i64 (m : Int)]).run Tryd.prog w = .ok (.slice (some ⟨G, 0, none⟩) (n + 1) C2) (w.drew.alloc (.cells (A ++ Z).toArray 29)) := fun ty => by
    have := run_zeros_grow (P := Tryd.prog) w 119 3 ty 29 i0 _ .i64 .i64 Tryd.underlying119 Tryd.underlying3 hii hz0 ⟨g, 0, none⟩ i cap A (by rw [hz1]; exact hAl)
      (fun j u hj => by
        rw [addr_add, Nat.zero_add]
        exact (cell_in hg j (by simpa [List.append_assoc, List.getElem?_append_left (List.getElem?_eq_some_iff.1 hj).1] using hj)).1)
      m (by omega) (by omega) (by omega) (by omega) (by rw [hz2]; omega) (growslice_fits (by omega) (by rw [hz2]; omega))
    rw [this, em, eC, eG, ← eZ]
    simp [Value.cells]
    congr 2
    apply Array.ext'
    simp
  obtain ⟨W0, eW0⟩ : ∃ W0, w.drew.alloc (.cells (A ++ Z).toArray 29) = W0 := ⟨_, rfl⟩
  have hg0 : W0.heap[G]? = some (.cells (A ++ Z).toArray 29 (0, 0)) := by rw [← eW0, ← eG]; exact heap_alloc_new w.drew _
  have hgr0 : Grows w W0 := by rw [← eW0]; exact bl_alloc (bl_drew (Below.refl _ _)) _
  have hvb0 := box_grows hvb hgr0
  have hgg0 := box_grows hg hgr0
  obtain ⟨c1, e1⟩ : ∃ c1, c1 = (A ++ Z).take A.length ++ kc k ++ (A ++ Z).drop (A.length + (kc k).length) := ⟨_, rfl⟩
  have hfill := fill_list A Z (kc k) B (by rw [hBl, hZl, show (kc k).length = 3 from rfl]; omega) c1 e1
  rw [show (kc k).length = 3 from rfl] at hfill e1
  have hc1l : c1.length = C2 * 3 := by rw [e1]; simp [hAl, hZl]; omega
  have hcp1 : ∀ ty dc, (Builtin.copy_ #[119, 119] ty #[.slice (some ⟨G, i * 3, none⟩) (n + 1 - i) dc, .slice (some ⟨vb, 0, none⟩) 1 1]).run Tryd.prog W0 = .ok (goInt 1) (W0.setRow G c1.toArray) := fun ty dc => by
    have := run_copy_block W0 119 119 ty 29 i0 Tryd.underlying119 hii G (i * 3) (n + 1 - i) dc (A ++ Z).toArray hg0 ⟨vb, 0, none⟩ 1 1 1 (kc k) (by simp only [Nat.min_def]; split <;> omega) (by rw [hz1]; rfl)
      (fun j u hj => by rw [addr_add]; exact (cell_in hvb0 _ (by simpa [kc] using hj)).1) (kc_one k) (by simp [hAl, hZl]; omega)
    rw [this, e1, hAl]
    rfl
  obtain ⟨W1, eW⟩ : ∃ W1, W0.setRow G c1.toArray = W1 := ⟨_, rfl⟩
  have hg1 : W1.heap[G]? = some (.cells c1.toArray 29 (0, 0)) := by rw [← eW]; exact setRow_heap W0 G _ _ _ _ hg0
  have hgg1 : W1.heap[g]? = some (.cells (A ++ B ++ R).toArray 29 (0, 0)) := by rw [← eW, setRow_other _ _ _ _ (by omega)]; exact hgg0
  obtain ⟨c2, e2⟩ : ∃ c2, c2 = c1.take (i * 3 + 3) ++ B ++ c1.drop (i * 3 + 3 + B.length) := ⟨_, rfl⟩
  have hcp2 : ∀ ty dc sc, (Builtin.copy_ #[119, 119] ty #[.slice (some ⟨G, (i + 1) * 3, none⟩) (n - i) dc, .slice (some ⟨g, i * 3, none⟩) (n - i) sc]).run Tryd.prog W1.drew = .ok (goInt ((n - i : Nat) : Int)) (W1.drew.setRow G c2.toArray) := fun ty dc sc => by
    have := run_copy_block W1.drew 119 119 ty 29 i0 Tryd.underlying119 hii G ((i + 1) * 3) (n - i) dc c1.toArray hg1 ⟨g, i * 3, none⟩ (n - i) sc (n - i) B (by simp only [Nat.min_def]; split <;> omega) (by rw [hz1]; exact hBl)
      (fun j u hj => by
        rw [addr_add]
        show W1.cell? ⟨g, i * 3 + j, none⟩ = some u
        have : (A ++ B ++ R)[i * 3 + j]? = some u := by
          rw [List.append_assoc, List.getElem?_append_right (by omega), hAl, Nat.add_sub_cancel_left, List.getElem?_append_left (List.getElem?_eq_some_iff.1 hj).1]; exact hj
        exact (cell_in hgg1 _ (by simpa using this)).1) hB1 (by simp [hc1l, hBl]; omega)
    rw [this, e2, show (i + 1) * 3 = i * 3 + 3 by omega]
  have hc2 : c2 = kvs (l.take i ++ k :: l.drop i) ++ Z.drop (3 + B.length) := by
    rw [e2, ← hAl, hfill, kvs_append, kvs_cons, eA, eB]
    simp
  have hend : KIns w base (.slice (some ⟨g, 0, none⟩) n cap) (l.take i ++ k :: l.drop i) (.returned (.slice (some ⟨G, 0, none⟩) (n + 1) C2)) (W1.drew.setRow G c2.toArray) := by
    refine ⟨_, rfl, KOwn.of_cells (R := Z.drop (3 + B.length)) (by rw [← eG]; exact hb) (by rw [← hc2]; exact setRow_heap W1.drew G _ _ _ _ hg1) ?_ hC2 ?_ ?_, ?_, fun j hj => .inr ?_⟩
    · simp; omega
    · rw [← hc2, e2]; simp [hc1l, hBl]; omega
    · simp; omega
    · rw [← eW]
      exact Chg.setRow (S := fun j => some g = some j) (Chg.drew (Chg.setRow (Chg.ofGrows hgr0) _ (.inl (Nat.le_of_eq eG)))) _ (.inl (Nat.le_of_eq eG))
    · simp only [Value.ownBlock, Option.some.injEq] at hj
      subst hj
      exact Nat.le_of_eq eG
  have HEND := Lib.hid hend
  rw [eW0] at hap
  rw [eW] at hcp1
  have hq1 : ((i : Int) = (n : Int)) = False := eq_false (by omega)
  have hq1b : (i = n) = False := eq_false (by omega)
  have hq1c : ((i : Int) == (n : Int)) = false := beq_false_of_ne (by omega)
  have hq2 : ((cap : Int) < (n : Int) + 1) = True := eq_true (by omega)
  have hq3 : (cap = i) = False := eq_false (by omega)
  have hq4 : (C2 = i) = False := eq_false (by omega)
  have hq10 : (C2 = i + 1) = False := eq_false (by omega)
  have hq5 : i ≤ n := Nat.le_of_lt hi
  have hq7 : i + 1 ≤ n + 1 := Nat.succ_le_succ hq5
  have hq8 : i ≤ n + 1 := Nat.le_succ_of_le hq5
  have hq9 : i ≤ cap := Nat.le_trans hq5 hnc
  have hq11 : i ≤ C2 := Nat.le_trans hq8 hC1
  have hy1 : (0 : Int) ≤ (i : Int) + 1 := Int.natCast_nonneg (i + 1)
  have hy2 : (i : Int) + 1 ≤ (n : Int) + 1 := Int.ofNat_le.2 (Nat.succ_le_succ hq5)
  have hy3 : ((i : Int) + 1).toNat = i + 1 := Int.toNat_natCast (i + 1)
  have hy5 : (i : Int) ≤ (n : Int) + 1 := Int.ofNat_le.2 hq8
  have hy6 : (i : Int) ≤ (cap : Int) := Int.ofNat_le.2 hq9
  have hsub : wrap64 ((n : Int) + 1 - (i : Int)) = (m : Int) := by
    rw [show (n : Int) + 1 - (i : Int) = (m : Int) by omega]; exact wrap_nat (by omega)
  have hw1 : wrap64 ((n : Int) + 1) = ((n + 1 : Nat) : Int) := wrap_succ (Nat.le_trans hl (by decide))
  have hw2 : wrap64 ((i : Int) + 1) = ((i + 1 : Nat) : Int) := wrap_succ (Nat.le_trans (Nat.le_of_lt hi) (Nat.le_trans hl (by decide)))
  have hy4 : IntKind.i64.wrap ((i : Int) + 1) = (i : Int) + 1 := (wrapEq _).trans (wrap_succ (Nat.le_trans (Nat.le_of_lt hi) (Nat.le_trans hl (by decide))))
  have mixed : Tryd.prog.follows .mixedOrders = true := by kernel_rfl
  clear hend hc2 e2 e1 hfill hB1 hc1l hAl hBl hAB eA eB hg hg1 hvb hl eW eW0 hZl eZ hg0 hgr0 hvb0 hgg0 hgg1 eC hC2 hgl hvl em hi hc hnc
  go_enter Tryd.func70, Tryd.ntmps70
  rw [← hsub] at hap
  clear hsub
  go_wp2_with (at_builtin; refine held ?_)
  unfold Held
  refine Lib.wpList_append_run _ rfl _ _ _ _ rfl _ _ rfl rfl _ _ (hap _) ?_
  go_wp2_with fail
  go_region_law_o (refine step_copy rfl _ _ 119 119 rfl _ _ (by simp [Act.eval, Act.put]) (by simp [Act.eval, Act.put]) (hcp2 _ _ _) ?_)
  go_wp2_with fail
  go_ret
  exact HEND.out
/-- slices.Insert of one key. -/
theorem kins_any {w : World} {base vb i : Nat} {v : Value} {l : List KW} (k : KW) (h : KOwn w base v l) (hi : i ≤ l.length) (hl : l.length ≤ 100000) (hvb : w.heap[vb]? = some (.cells #[.int .i64 k.t, .int .i64 k.f, .int .u32 k.s] 29 (0, 0))) (hne : v.ownBlock ≠ some vb) (hbase : base ≤ w.heap.size) :
    Calls Tryd.prog 70 #[v, .int .i64 (i : Int), .slice (some ⟨vb, 0, none⟩) 1 1] w (KIns w base v (l.take i ++ k :: l.drop i)) := by
  rcases Nat.lt_or_ge i l.length with hlt | hge
  · obtain ⟨g, cap, R, rfl, hb, hg, hc, hm, hs⟩ := h.form (by rintro rfl; simp at hlt)
    by_cases hroom : l.length < cap
    · exact kins_room k rfl hlt hl hb hg hroom hm hs hvb (fun e => hne (by rw [e]; rfl))
    · exact kins_grow k rfl hlt hl hbase hg (by omega) hc hvb
  · obtain rfl : i = l.length := by omega
    have := kins_end k h hl hvb hbase
    simpa using this
end Go.Proofs.YtgjieoljfcfacaaDoor
/- slices.Delete of one key, and slices.Clone of keys. -/
namespace Go.Proofs.YtgjieoljfcfacaaDoor
open Go.RowKit Go.Sort
set_option maxHeartbeats 4000000
set_option maxRecDepth 100000

theorem step_append_run {P : Program} {ops : Array Oper} {o : Oper} {a : Act} {w : World} {K : Act → World → Prop} {Q : Exit → Act → World → Prop} {E : Prop}
    (hg : o.guard = none) (d x : Operand) (dT sT : TypeId) (hop : o.op = Op.call { callee := Callee.builtin Builtin.append, args := #[d, x], argTypes := #[dT, sT] })
    (v u : Value) (hd : a.eval d = v) (hx : a.eval x = u) {v' : Value} {w' : World} (hr : (Builtin.append_ #[dT, sT] o.type #[v, u]).run P w = .ok v' w') (hK : K (a.put o.dst v') w') :
    if Region.wanted o (yielded ops a.tmps) = true then Oper.wp P o a w K Q else E := by
  have hw : Region.wanted o (yielded ops a.tmps) = true := by simp [Region.wanted, hg]
  rw [if_pos hw]
  unfold Oper.wp
  simp [execOp, hop, resolve, invoke, builtin, hd, hx, hr, Result.andThen]
  exact hK
theorem run_clear_block {P : Program} (w : World) (t e ty : TypeId) (z : Value) (ht : P.underlying t = some (.slice e)) (hv : ∀ w, (zeroValue e).run P w = .ok z w) (g o n c : Nat) (hn : 0 < n) (cur : Array Value) (hg : w.heap[g]? = some (.cells cur e (0, 0)))
    (hfit : o + (Builtin.zeroCells z.cells n).toList.length ≤ cur.size) (h1 : ∀ u ∈ (Builtin.zeroCells z.cells n).toList, u.oneCell' = true) :
    (Builtin.clear_ #[t] ty #[.slice (some ⟨g, o, none⟩) n c]).run P w = .ok (.tuple #[]) (w.setRow g (cur.toList.take o ++ (Builtin.zeroCells z.cells n).toList ++ cur.toList.drop (o + (Builtin.zeroCells z.cells n).toList.length)).toArray) := by
  have hst := run_storeCells_at P g o e (Builtin.zeroCells z.cells n).toList 0 cur w hg (by simpa using hfit) h1
  simp only [Nat.add_zero] at hst
  cases n with
  | zero => omega
  | succ n => simp [Builtin.clear_, run_underlying ht, hv, hst]
theorem zeroKey (w : World) : (zeroValue 29).run Tryd.prog w = .ok (.agg #[.int .i64 0, .int .i64 0, .int .u32 0]) w := by
  obtain ⟨i0, hii, hz⟩ : ∃ i, Tryd.prog.info? 29 = some i ∧ (i.zero, i.size, i.bytes) = (some (.agg #[.int .i64 0, .int .i64 0, .int .u32 0]), 3, 24) := Option.map_eq_some_iff.1 Tryd.infoKey
  simp only [Prod.mk.injEq] at hz
  simp [zeroValue, typeInfo, hii, hz.1]
/-- What Delete leaves. -/
def KDel (w : World) (base : Nat) (v : Value) (l : List KW) (e : Ending) (w' : World) : Prop :=
  ∃ v', e = .returned v' ∧ KOwn w' base v' l ∧ Chg (fun j => v.ownBlock = some j) w w' ∧ v'.ownBlock = v.ownBlock
theorem kdel_list {α : Type} (A K B R Z : List α) (hZ : Z.length = K.length) (c1 : List α) (h1 : c1 = (A ++ K ++ B ++ R).take A.length ++ B ++ (A ++ K ++ B ++ R).drop (A.length + B.length)) :
    c1.take (A.length + B.length) ++ Z ++ c1.drop (A.length + B.length + Z.length) = A ++ B ++ Z ++ R := by
  have e1 : c1 = A ++ B ++ (A ++ K ++ B ++ R).drop (A.length + B.length) := by
    rw [h1]; congr 2; rw [List.append_assoc, List.append_assoc, List.take_left]
  have e2 : c1.drop (A.length + B.length + Z.length) = R := by
    have h3 : (A ++ K ++ B ++ R).drop (A.length + B.length + K.length) = R := by
      rw [show A.length + B.length + K.length = (A ++ K ++ B).length by simp; omega, List.drop_left]
    rw [e1, hZ, ← List.drop_drop, ← List.length_append, List.drop_left, List.drop_drop, List.length_append, h3]
  rw [e2, e1, ← List.length_append, List.take_left]
theorem zero_one : (Builtin.zeroCells (Value.agg #[.int .i64 0, .int .i64 0, .int .u32 0]).cells 1).toList = [.int .i64 0, .int .i64 0, .int .u32 0] := by
  simp [Builtin.zeroCells, Value.cells]
  rfl
theorem kdel_any {w : World} {base i : Nat} {v : Value} {l : List KW} (h : KOwn w base v l) (hi : i < l.length) (hl : l.length ≤ 100000) :
    Calls Tryd.prog 88 #[v, .int .i64 (i : Int), .int .i64 ((i : Int) + 1)] w (KDel w base v (l.eraseIdx i)) := by
  obtain ⟨i0, hii, hz⟩ : ∃ i, Tryd.prog.info? 29 = some i ∧ (i.zero, i.size, i.bytes) = (some (.agg #[.int .i64 0, .int .i64 0, .int .u32 0]), 3, 24) := Option.map_eq_some_iff.1 Tryd.infoKey
  simp only [Prod.mk.injEq] at hz
  obtain ⟨hz0, hz1, hz2⟩ := hz
  obtain ⟨g, cap, R, rfl, hb, hg, hc, hm, hs⟩ := h.form (by rintro rfl; simp at hi)
  obtain ⟨n, hn⟩ : ∃ n, l.length = n := ⟨_, rfl⟩
  rw [hn] at hi hl hc ⊢
  obtain ⟨j, ej⟩ : ∃ j, n - (i + 1) = j := ⟨_, rfl⟩
  obtain ⟨n1, en⟩ : ∃ n1, n1 + 1 = n := ⟨n - 1, by omega⟩
  obtain ⟨A, eA⟩ : ∃ A, kvs (l.take i) = A := ⟨_, rfl⟩
  obtain ⟨B, eB⟩ : ∃ B, kvs (l.drop (i + 1)) = B := ⟨_, rfl⟩
  have hli : i < l.length := by omega
  obtain ⟨K, eK⟩ : ∃ K, kc l[i] = K := ⟨_, rfl⟩
  have hAB : kvs l = A ++ K ++ B := by
    conv => lhs; rw [← List.take_append_drop i l, List.drop_eq_getElem_cons hli]
    rw [kvs_append, kvs_cons, eA, eB, eK, List.append_assoc]
  have hAl : A.length = i * 3 := by rw [← eA, kvs_length, List.length_take]; omega
  have hBl : B.length = j * 3 := by rw [← eB, kvs_length, List.length_drop, hn, ej]
  have hB1 : ∀ u ∈ B, u.oneCell' = true := by rw [← eB]; exact kvs_one _
  rw [hAB] at hg hs
  have hKl : K.length = 3 := by rw [← eK]; rfl
  obtain ⟨c1, e1⟩ : ∃ c1, c1 = (A ++ K ++ B ++ R).take A.length ++ B ++ (A ++ K ++ B ++ R).drop (A.length + B.length) := ⟨_, rfl⟩
  obtain ⟨Z, eZ⟩ : ∃ Z, (Builtin.zeroCells (Value.agg #[.int .i64 0, .int .i64 0, .int .u32 0]).cells 1).toList = Z := ⟨_, rfl⟩
  have hZ : Z = [.int .i64 0, .int .i64 0, .int .u32 0] := by rw [← eZ]; exact zero_one
  have hZl : Z.length = K.length := by rw [hZ, hKl]; rfl
  have hdel := kdel_list A K B R Z hZl c1 e1
  have hc1l : c1.length = cap * 3 := by rw [e1, ← hs]; simp; omega
  obtain ⟨ad, had, hadc⟩ : ∃ ad, (if cap = i + 1 then some (⟨g, 0, none⟩ : Addr) else some ⟨g, (i + 1) * 3, none⟩) = some ad ∧ ∀ q u, B[q]? = some u → w.drew.cell? (ad.add q) = some u := by
    by_cases hq : cap = i + 1
    · refine ⟨⟨g, 0, none⟩, by rw [if_pos hq], fun q u hu => ?_⟩
      have := (List.getElem?_eq_some_iff.1 hu).1
      omega
    · refine ⟨⟨g, (i + 1) * 3, none⟩, by rw [if_neg hq], fun q u hu => ?_⟩
      rw [addr_add]
      show w.cell? ⟨g, (i + 1) * 3 + q, none⟩ = some u
      have : (A ++ K ++ B ++ R)[(i + 1) * 3 + q]? = some u := by
        rw [List.append_assoc, List.getElem?_append_right (by simp; omega), List.length_append, hAl, hKl, show (i + 1) * 3 + q - (i * 3 + 3) = q by omega, List.getElem?_append_left (List.getElem?_eq_some_iff.1 hu).1]
        exact hu
      exact (cell_in hg _ (by simpa using this)).1
  have hap : ∀ ty, (Builtin.append_ #[119, 119] ty #[.slice (some ⟨g, 0, none⟩) i cap, .slice (some ad) j (cap - (i + 1))]).run Tryd.prog w.drew = .ok (.slice (some ⟨g, 0, none⟩) n1 cap) (w.drew.setRow g c1.toArray) := fun ty => by
    have := run_append_room (P := Tryd.prog) w.drew 119 ty 29 i0 Tryd.underlying119 hii g i cap (A ++ K ++ B ++ R).toArray hg ad j (cap - (i + 1)) B (by rw [hz1]; exact hBl) hadc hB1 (by omega) (by rw [hz1, hBl]; simp; omega)
    rw [this, hz1, ← hAl, show i + j = n1 by omega, e1]
  obtain ⟨W1, eW⟩ : ∃ W1, w.drew.setRow g c1.toArray = W1 := ⟨_, rfl⟩
  have hg1 : W1.heap[g]? = some (.cells c1.toArray 29 (0, 0)) := by rw [← eW]; exact setRow_heap w.drew g _ _ _ _ hg
  obtain ⟨c2, e2⟩ : ∃ c2, c2 = c1.take (n1 * 3) ++ Z ++ c1.drop (n1 * 3 + Z.length) := ⟨_, rfl⟩
  have hn13 : A.length + B.length = n1 * 3 := by omega
  have hcl : ∀ ty, (Builtin.clear_ #[119] ty #[.slice (some ⟨g, n1 * 3, none⟩) 1 (cap - n1)]).run Tryd.prog W1 = .ok (.tuple #[]) (W1.setRow g c2.toArray) := fun ty => by
    have := run_clear_block W1 119 29 ty _ Tryd.underlying119 zeroKey g (n1 * 3) 1 (cap - n1) (by omega) c1.toArray hg1 (by rw [eZ, hZl, hKl]; simp [hc1l]; omega) (by rw [eZ, hZ]; intro u hu; simp at hu; rcases hu with rfl | rfl <;> rfl)
    rw [this, eZ, e2]
  have hc2 : c2 = kvs (l.eraseIdx i) ++ (Z ++ R) := by
    rw [e2, ← hn13, hdel, List.eraseIdx_eq_take_drop_succ, kvs_append, eA, eB]
    simp
  have hel : (l.eraseIdx i).length = n1 := by rw [List.length_eraseIdx_of_lt hli]; omega
  have hend : KDel w base (.slice (some ⟨g, 0, none⟩) n cap) (l.eraseIdx i) (.returned (.slice (some ⟨g, 0, none⟩) n1 cap)) (W1.setRow g c2.toArray) := by
    refine ⟨_, rfl, KOwn.of_cells (R := Z ++ R) hb (by rw [← hc2]; exact setRow_heap W1 g _ _ _ _ hg1) (by omega) hm ?_ hel, ?_, rfl⟩
    · rw [← hc2, e2]; simp [hc1l]; omega
    · rw [← eW]
      exact Chg.setRow (S := fun j => some g = some j) (Chg.setRow (Chg.drew (Chg.refl _ _)) _ (.inr rfl)) _ (.inr rfl)
  have HEND := Lib.hid hend
  rw [eW] at hap
  have hq1 : ((i : Int) = (i : Int) + 1) = False := eq_false (by omega)
  have hq1c : ((i : Int) == (i : Int) + 1) = false := beq_false_of_ne (by omega)
  have hq3 : (cap = i) = False := eq_false (by omega)
  have hq4 : (cap = n1) = False := eq_false (by omega)
  have hq5 : i ≤ n := Nat.le_of_lt hi
  have hq6 : i + 1 ≤ n := hi
  have hq8 : n1 ≤ n := by omega
  have hq9 : i ≤ cap := Nat.le_trans hq5 hc
  have hq11 : n1 ≤ cap := Nat.le_trans hq8 hc
  have hq12 : n - n1 = 1 := by omega
  have hq13 : i + 1 ≤ cap := Nat.le_trans hq6 hc
  have hq14 : i ≤ i + 1 := Nat.le_succ i
  have hy0 : (i : Int) ≤ (i : Int) + 1 := Int.ofNat_le.2 hq14
  have hy1 : (0 : Int) ≤ (i : Int) + 1 := Int.natCast_nonneg (i + 1)
  have hy2 : (i : Int) + 1 ≤ (n : Int) := Int.ofNat_le.2 hq6
  have hy3 : ((i : Int) + 1).toNat = i + 1 := Int.toNat_natCast (i + 1)
  have hy6 : (i : Int) ≤ (cap : Int) := Int.ofNat_le.2 hq9
  have hy7 : (i : Int) + 1 ≤ (cap : Int) := Int.ofNat_le.2 hq13
  have mixed : Tryd.prog.follows .mixedOrders = true := by kernel_rfl
  clear hend hc2 e2 e1 hdel hB1 hc1l hAl hBl hAB eA eB hg hs hm hg1 hl eW hel hZ hZl eZ hKl eK hadc hn13 en hi hn h hb hli
  go_enter Tryd.func88, Tryd.ntmps88
  go_wp2_with fail
  go_region_law_o (refine step_append_run rfl _ _ 119 119 rfl _ _ (by simp [Act.eval, Act.put]) (by simp [Act.eval, Act.put]) (hap _) ?_)
  go_wp2_with fail
  go_ret
  exact HEND.out
end Go.Proofs.YtgjieoljfcfacaaDoor
/- slices.Clone and slices.BinarySearchFunc at keys. -/
namespace Go.Proofs.YtgjieoljfcfacaaDoor
open Go.RowKit Go.Sort
set_option maxHeartbeats 4000000
set_option maxRecDepth 100000

theorem kclone_any {v : Value} {l : List KW} {w : World} (h : KHas w v l) (hm : l.length ≤ 100000) :
    Calls Tryd.prog 87 #[v] w (fun e w' => ∃ v', e = .returned v' ∧ Grows w w' ∧ KOwn w' w.heap.size v' l) := by
  obtain ⟨i0, hi, hz⟩ : ∃ i, Tryd.prog.info? 29 = some i ∧ (i.zero, i.size, i.bytes) = (some (.agg #[.int .i64 0, .int .i64 0, .int .u32 0]), 3, 24) := Option.map_eq_some_iff.1 Tryd.infoKey
  simp only [Prod.mk.injEq] at hz
  obtain ⟨hz0, hz1, hz2⟩ := hz
  obtain ⟨n, en⟩ : ∃ n, l.length = n := ⟨_, rfl⟩
  obtain ⟨a, cap, rfl⟩ := h.len en
  have he := run_eql_slice_nil (P := Tryd.prog) w 119 29 a n cap Tryd.underlying119
  cases a with
  | none =>
    have hb : l = [] := by
      rcases h with ⟨h1, _⟩ | ⟨g, o, c, h1, _⟩
      · exact h1
      · simp at h1
    subst hb
    obtain rfl : n = 0 := by simpa using en.symm
    clear h
    go_enter Tryd.func87, Tryd.ntmps87
    go_wp2
    go_ret
    exact ⟨_, rfl, Below.refl _ _, World.ownsRow_nil _ _ _ _⟩
  | some a =>
    have hc : ∀ j u, (kvs l)[j]? = some u → w.cell? (a.add j) = some u ∧ a.block < w.heap.size := by
      intro j u hu
      have hj := (List.getElem?_eq_some_iff.1 hu).1
      rw [kvs_length] at hj
      rcases h with ⟨rfl, _⟩ | ⟨g, o, c, h1, _, h3, h4⟩
      · simp at hj
      · simp only [Value.slice.injEq, Option.some.injEq] at h1
        obtain ⟨rfl, -, -⟩ := h1
        refine ⟨?_, h3⟩
        rw [addr_add]
        have h5 := h4 (j / 3) (by omega) (j % 3) (Nat.mod_lt _ (by omega))
        rw [show o + j / 3 * 3 + j % 3 = o + j by omega] at h5
        rw [h5, ← rows_get (f := kc) (k := 3) (fun _ => rfl) l (j / 3) (by omega) (j % 3) (Nat.mod_lt _ (by omega)), show j / 3 * 3 + j % 3 = j by omega]
        exact hu
    have HC := Lib.hid hc
    have HL := Lib.hid en
    have HM := Lib.hid hm
    clear h hc en hm
    go_enter Tryd.func87, Tryd.ntmps87
    go_wp2_with (first | (at_builtin; refine wpList_append_own _ rfl _ _ 119 rfl w.heap.size 29 i0 _ 3 24 Tryd.underlying119 hi hz0 hz1 hz2 rfl (by decide) _ 0 [] rfl ?c0 a n cap (kvs l) rfl ?c1 ?c2 ?c3 ?c4 ?c5 ?c6 ?_))
    case c0 => exact World.ownsRow_lit w #[] 0 (Nat.le_refl _) (by decide) rfl
    case c1 => rw [kvs_length, HL.out]
    case c2 =>
      intro j u hu
      obtain ⟨h1, h2⟩ := HC.out j u hu
      exact ((bl_alloc (Below.refl _ _) _ : Below w.heap.size w _).cell (p := a.add j) (by rw [show (a.add j).block = a.block by unfold Addr.add; split <;> rfl]; exact h2)).trans h1
    case c3 => exact kvs_one l
    case c4 => have := HM.out; have := HL.out; unfold maxLen; omega
    case c5 => have := HM.out; have := HL.out; omega
    case c6 => simp
    intro v' w1 hown hgrow _
    have hg2 : Grows w w1 := grows_of_grownBy (bl_alloc (Below.refl _ _) _) hgrow (by rintro k hk; cases hk; exact Nat.le_refl _)
    have ho : KOwn w1 w.heap.size v' l := by
      show World.ownsRow _ _ _ _ _ _ _
      rw [HL.out]
      simpa using hown
    have HO := Lib.hid ho
    clear hown hgrow ho
    go_wp2_with fail
    go_ret
    exact ⟨v', rfl, hg2, HO.out⟩

/-- What a search finds, of whatever test: the one ahead fails, this one does not. -/
def Found (P : Nat → Bool) (n k : Nat) : Prop := k ≤ n ∧ (0 < k → P (k - 1) = false) ∧ (k < n → P k = true)
/-- Is the key at a place not ahead of this one? -/
def behind (l : List KW) (k : KW) (j : Nat) : Bool := match l[j]? with | some y => !lessK y k | none => true
/-- Is it the key? -/
def hitK (l : List KW) (k : KW) (j : Nat) : Bool := match l[j]? with | some y => decide (cmpK y k = 0) | none => false
theorem mid_facts {i j n : Nat} (hlt : i < j) (hjn : j ≤ n) (hn : n ≤ 100000) : ∃ h, (i ≤ h ∧ h < j) ∧ IntKind.u64.wrap ((i : Int) + (j : Int)) = (i : Int) + (j : Int) ∧ ((i : Int) + (j : Int)) / 2 = (h : Int) ∧ IntKind.i64.wrap (h : Int) = (h : Int) ∧ wrap64 ((i : Int) + (j : Int)) = (i : Int) + (j : Int) ∧ wrap64 (h : Int) = (h : Int) ∧ wrap64 ((h : Int) + 1) = (h : Int) + 1 ∧ (h : Int) < (n : Int) ∧ h < n ∧ (0 : Int) ≤ (h : Int) := by
  refine ⟨(i + j) / 2, ⟨by omega, by omega⟩, by rw [IntKind.wrap_u64]; omega, by omega, IntWalk.i64_in _ (by omega), by unfold wrap64; omega, by unfold wrap64; omega, by unfold wrap64; omega, by omega, by omega, by omega⟩
theorem meas_lo {i h j : Nat} (h1 : i ≤ h) (h2 : h < j) : (intOf (.int .i64 (h : Int))).toNat - (intOf (.int .i64 (i : Int))).toNat < (intOf (.int .i64 (j : Int))).toNat - (intOf (.int .i64 (i : Int))).toNat := by
  simp only [intOf]; omega
theorem meas_hi {i h j : Nat} (h1 : i ≤ h) (h2 : h < j) : (intOf (.int .i64 (j : Int))).toNat - (intOf (.int .i64 ((h : Int) + 1))).toNat < (intOf (.int .i64 (j : Int))).toNat - (intOf (.int .i64 (i : Int))).toNat := by
  simp only [intOf]; omega
theorem ksearch_any {v : Value} {l : List KW} {w : World} (k : KW) (h : KHas w v l) (hm : l.length ≤ 100000) :
    Calls Tryd.prog 84 #[v, k.val, .func (.func 85) #[] #[]] w (fun e w' => ∃ (n : Nat), e = .returned (.tuple #[.int .i64 (n : Int), .bool (hitK l k n)]) ∧ Found (behind l k) l.length n ∧ Grows w w') := by
  obtain ⟨n, en⟩ : ∃ n, l.length = n := ⟨_, rfl⟩
  obtain ⟨a, cap, rfl⟩ := h.len en
  have hgb : Grows w (w.alloc (.cells #[.int .i64 k.t, .int .i64 k.f, .int .u32 k.s] 29)) := bl_alloc (Below.refl _ _) _
  have HH := Lib.hid (h.grows hgb)
  have HG := Lib.hid hgb
  have hn6 : n ≤ 100000 := by omega
  rw [en]
  have EN := Lib.hid en
  have hbx := heap_alloc_new w (.cells #[.int .i64 k.t, .int .i64 k.f, .int .u32 k.s] 29)
  have HBX := Lib.hid hbx
  have HN := Lib.hid hn6
  clear hgb h hm en hbx hn6
  go_enter Tryd.func84, Tryd.ntmps84
  go_wp2_with fail
  obtain ⟨w1, e1⟩ : ∃ w1, w.alloc (.cells #[.int .i64 k.t, .int .i64 k.f, .int .u32 k.s] 29) = w1 := ⟨_, rfl⟩
  rw [e1] at HH HG HBX
  rw [e1]
  clear e1
  go_loopw [9, 10] (fun iv jv wr => ∃ i j : Nat, iv = .int .i64 (i : Int) ∧ jv = .int .i64 (j : Int) ∧ i ≤ j ∧ j ≤ n ∧ (0 < i → behind l k (i - 1) = false) ∧ (j < n → behind l k j = true) ∧ Grows w1 wr) (fun iv jv _ => (intOf jv).toNat - (intOf iv).toNat)
  case atStart => exact ⟨0, n, rfl, rfl, Nat.zero_le _, Nat.le_refl _, fun h => absurd h (by omega), fun h => absurd h (by omega), Below.refl _ _⟩
  case round =>
    obtain ⟨i, j, rfl, rfl, hij, hjn, hi, hj, hg⟩ := hrel
    have hhb := box_grows HBX.out hg
    have hha := HH.out.grows hg
    have z1 : w.heap.size < wr.heap.size := box_lt hhb
    obtain ⟨t0, -⟩ := cell_in hhb 0 rfl
    obtain ⟨t1, -⟩ := cell_in hhb 1 rfl
    obtain ⟨t2, -⟩ := cell_in hhb 2 rfl
    have HI := Lib.hid hi
    have HJ := Lib.hid hj
    have HGG := Lib.hid hg
    have HJN := Lib.hid hjn
    clear hi hj hg hhb
    have hjn := HJN.out
    by_cases hlt : i < j
    · obtain ⟨h, ⟨h1, h2⟩, hfacts⟩ := mid_facts hlt hjn HN.out
      have HFA := Lib.hid hfacts
      clear hfacts
      have hnl : h < l.length := by rw [EN.out]; omega
      obtain ⟨g, o, c', he, hcap, hgl, hat⟩ := hha.form EN.out (by omega)
      simp only [Value.slice.injEq, true_and] at he
      obtain ⟨rfl, rfl⟩ := he
      obtain ⟨p0, p1, p2⟩ := kat_cells hat h hnl
      obtain ⟨y, ey⟩ : ∃ y, l[h] = y := ⟨_, rfl⟩
      rw [ey] at p0 p1 p2
      have hbe : behind l k h = !lessK y k := by unfold behind; rw [List.getElem?_eq_getElem hnl, ey]
      have hc := fun W => kcmp_any y k W
      obtain ⟨c, ec⟩ : ∃ c, cmpK y k = c := ⟨_, rfl⟩
      have hle : lessK y k = decide (c < 0) := by unfold lessK; rw [ec]
      rw [ec] at hc
      rw [hle] at hbe
      have HCC := Lib.hid hc
      have HBE := Lib.hid hbe
      have hd1 : decide ((i : Int) < (j : Int)) = true := decide_eq_true (by omega)
      have HF := Lib.hid (And.intro h1 (And.intro h2 hij))
      clear hc hbe hha hat ec ey hle hnl hij h1 h2 hcap hjn
      obtain ⟨e1, e2, e3, e4, e5, e6, e7, e8, e9⟩ := HFA.out
      by_cases hcz : c < 0
      · have HBE2 := Lib.hid (show behind l k h = false by rw [HBE.out, decide_eq_true hcz]; rfl)
        have hcn : (c < 0) = True := eq_true hcz
        have hcd : decide (c < 0) = true := decide_eq_true hcz
        clear hcz
        go_wp2_with fail
        refine wp_region_reg (by kernel_rfl) (by kernel_rfl) ?_
        repeat (first | go_big_quiet_step ((go_at_call 85; exact class_reg (HCC.out _))) | quiet_step ((go_at_call 85; exact class_reg (HCC.out _))))
        refine wpQuiet_nil ?_
        intro _ hcw1
        obtain ⟨pq, hcw2⟩ := hcw1
        subst hcw2
        have HG2 := Lib.hid (grows_trans _ _ _ HGG.out (below_reg wr pq))
        go_wp2_with fail
        go_roundw
        case rel => exact ⟨h + 1, j, by rw [e6]; rfl, rfl, HF.out.2.1, HJN.out, fun _ => HBE2.out, HJ.out, HG2.out⟩
        case measure => rw [e6]; exact meas_hi HF.out.1 HF.out.2.1
      · have HBE2 := Lib.hid (show behind l k h = true by rw [HBE.out, decide_eq_false hcz]; rfl)
        have hcn : (c < 0) = False := eq_false hcz
        have hcd : decide (c < 0) = false := decide_eq_false hcz
        clear hcz
        go_wp2_with fail
        refine wp_region_reg (by kernel_rfl) (by kernel_rfl) ?_
        repeat (first | go_big_quiet_step ((go_at_call 85; exact class_reg (HCC.out _))) | quiet_step ((go_at_call 85; exact class_reg (HCC.out _))))
        refine wpQuiet_nil ?_
        intro _ hcw1
        obtain ⟨pq, hcw2⟩ := hcw1
        subst hcw2
        have HG2 := Lib.hid (grows_trans _ _ _ HGG.out (below_reg wr pq))
        go_wp2_with fail
        go_roundw
        case rel => exact ⟨i, h, rfl, rfl, HF.out.1, Nat.le_trans (Nat.le_of_lt HF.out.2.1) HJN.out, HI.out, fun _ => HBE2.out, HG2.out⟩
        case measure => exact meas_lo HF.out.1 HF.out.2.1
    · obtain rfl : i = j := by omega
      have hd1 : decide ((i : Int) < (i : Int)) = false := decide_eq_false (by omega)
      have hend : ∀ w', Grows wr w' → Found (behind l k) n i ∧ Grows w w' := fun w' hg => ⟨⟨HJN.out, HI.out, HJ.out⟩, grows_trans _ _ _ HG.out (grows_trans _ _ _ HGG.out hg)⟩
      have HE := Lib.hid hend
      clear hend
      by_cases hin : i < n
      · obtain ⟨g, o, c', he, hcap, hgl, hat⟩ := hha.form EN.out (by omega)
        simp only [Value.slice.injEq, true_and] at he
        obtain ⟨rfl, rfl⟩ := he
        have hnl : i < l.length := by rw [EN.out]; exact hin
        obtain ⟨p0, p1, p2⟩ := kat_cells hat i hnl
        obtain ⟨y, ey⟩ : ∃ y, l[i] = y := ⟨_, rfl⟩
        rw [ey] at p0 p1 p2
        have hc := fun W => kcmp_any y k W
        obtain ⟨c, ec⟩ : ∃ c, cmpK y k = c := ⟨_, rfl⟩
        rw [ec] at hc
        have HCC := Lib.hid hc
        have HHI := Lib.hid (show hitK l k i = decide (c = 0) by unfold hitK; rw [List.getElem?_eq_getElem hnl, ey]; simp only [ec])
        have hd2 : decide ((i : Int) < (n : Int)) = true := decide_eq_true (by omega)
        have hq : (i < n) = True := eq_true hin
        have hq2 : (i : Int) < (n : Int) := by omega
        have hq3 : (0 : Int) ≤ (i : Int) := by omega
        clear hc ec hat hha ey hnl hcap hjn hij hlt
        go_wp2_with fail
        refine wp_region_reg (by kernel_rfl) (by kernel_rfl) ?_
        repeat (first | go_big_quiet_step ((go_at_call 85; exact class_reg (HCC.out _))) | quiet_step ((go_at_call 85; exact class_reg (HCC.out _))))
        refine wpQuiet_nil ?_
        intro _ hcw1
        obtain ⟨pq, hcw2⟩ := hcw1
        subst hcw2
        go_wp2_with fail
        go_ret2
        exact ⟨i, by rw [HHI.out]; rfl, HE.out _ (below_reg _ _)⟩
      · have hd2 : decide ((i : Int) < (n : Int)) = false := decide_eq_false (by omega)
        have hq : (i < n) = False := eq_false hin
        have HHI := Lib.hid (show hitK l k i = false by unfold hitK; rw [List.getElem?_eq_none (by rw [EN.out]; exact Nat.le_of_not_lt hin)])
        clear hha hjn hij hlt
        go_wp2_with fail
        refine wp_region_reg (by kernel_rfl) (by kernel_rfl) ?_
        repeat (first | go_big_quiet_step ((fail)) | quiet_step ((fail)))
        refine wpQuiet_nil ?_
        intro _ hcw1
        obtain ⟨pq, hcw2⟩ := hcw1
        subst hcw2
        go_wp2_with fail
        go_ret2
        exact ⟨i, by rw [HHI.out]; rfl, HE.out _ (below_reg _ _)⟩
end Go.Proofs.YtgjieoljfcfacaaDoor
/- A table of rows by keys: what lies in memory of it; the plain laws of keys in order. -/
namespace Go.Proofs.YtgjieoljfcfacaaDoor
open Go.RowKit Go.Sort
set_option maxHeartbeats 1000000
set_option maxRecDepth 100000

theorem cmpI_neg {x y : Int} : cmpI x y < 0 ↔ x < y := by unfold cmpI; split; simp_all; split <;> simp_all
theorem cmpI_zero {x y : Int} : cmpI x y = 0 ↔ x = y := by unfold cmpI; split; omega; split <;> omega
theorem lessK_iff {a b : KW} : lessK a b = true ↔ a.t < b.t ∨ a.t = b.t ∧ (a.f < b.f ∨ a.f = b.f ∧ a.s < b.s) := by
  unfold lessK cmpK orI
  rw [decide_eq_true_iff]
  have h1 := @cmpI_neg a.t b.t
  have h2 := @cmpI_zero a.t b.t
  have h3 := @cmpI_neg a.f b.f
  have h4 := @cmpI_zero a.f b.f
  have h5 := @cmpI_neg a.s b.s
  by_cases e1 : cmpI a.t b.t = 0
  · have := h2.1 e1
    by_cases e2 : cmpI a.f b.f = 0
    · have := h4.1 e2
      simp [e1, e2]; omega
    · simp [e1, e2]; omega
  · simp [e1]; omega
theorem lessK_trans {a b c : KW} (h : lessK a b = true) (k : lessK b c = true) : lessK a c = true := by
  rw [lessK_iff] at *; omega
theorem lessK_irrefl (a : KW) : lessK a a = false := by
  cases h : lessK a a with
  | false => rfl
  | true => rw [lessK_iff] at h; omega
theorem kw_ext {a b : KW} (h1 : a.t = b.t) (h2 : a.f = b.f) (h3 : a.s = b.s) : a = b := by cases a; cases b; simp_all
theorem lessK_total {a b : KW} (h : lessK a b = false) (hne : a ≠ b) : lessK b a = true := by
  cases k : lessK b a with
  | true => rfl
  | false =>
    exfalso
    apply hne
    have h1 : ¬ lessK a b = true := by simp [h]
    have h2 : ¬ lessK b a = true := by simp [k]
    rw [lessK_iff] at h1 h2
    exact kw_ext (by omega) (by omega) (by omega)
/-- Keys that rise. -/
abbrev Rises (l : List KW) : Prop := l.Pairwise fun a b => lessK a b = true
theorem Rises.nodup {l : List KW} (h : Rises l) : l.Nodup := h.imp fun {a b} hab e => by subst e; rw [lessK_irrefl] at hab; cases hab
theorem take_found {α : Type} (p : α → Bool) : ∀ (l : List α) (n : Nat), n ≤ l.length → (∀ j, j < n → (h : j < l.length) → p l[j] = true) → (∀ h : n < l.length, p l[n] = false) → l.takeWhile p = l.take n ∧ l.dropWhile p = l.drop n
  | [], n, _, _, _ => by simp
  | a :: l, 0, _, _, h => by have := h (by simp); simp at this; simp [this]
  | a :: l, n + 1, hn, h1, h2 => by
    have h0 := h1 0 (by omega) (by simp)
    simp at h0
    obtain ⟨e1, e2⟩ := take_found p l n (by simpa using hn) (fun j hj hl => by have := h1 (j + 1) (by omega) (by simpa using hl); simpa using this) (fun h => by have := h2 (by simpa using h); simpa using this)
    simp [h0, e1, e2]
/-- What the search finds in keys that rise: where those end that are ahead. -/
theorem found_at {l : List KW} (hr : Rises l) {k : KW} {n : Nat} (h : Found (behind l k) l.length n) : l.takeWhile (fun y => lessK y k) = l.take n ∧ l.dropWhile (fun y => lessK y k) = l.drop n := by
  obtain ⟨h1, h2, h3⟩ := h
  refine take_found _ l n h1 (fun j hj hl => ?_) (fun hl => ?_)
  · have h4 := h2 (by omega)
    unfold behind at h4
    have hn1 : n - 1 < l.length := by omega
    rw [List.getElem?_eq_getElem hn1] at h4
    simp only [Bool.not_eq_false'] at h4
    by_cases he : j = n - 1
    · subst he; exact h4
    · exact lessK_trans (List.pairwise_iff_getElem.1 hr j (n - 1) hl hn1 (by omega)) h4
  · have h4 := h3 hl
    unfold behind at h4
    rw [List.getElem?_eq_getElem hl] at h4
    simpa using h4
/-- Where a key stands, or would stand. -/
def posK (l : List KW) (k : KW) : Nat := (l.takeWhile fun y => lessK y k).length
theorem posK_le (l : List KW) (k : KW) : posK l k ≤ l.length := (List.takeWhile_sublist _).length_le
theorem take_pos (l : List KW) (k : KW) : l.take (posK l k) = l.takeWhile fun y => lessK y k := by
  conv => lhs; rw [← List.takeWhile_append_dropWhile (p := fun y => lessK y k) (l := l)]
  unfold posK
  rw [List.takeWhile_append_dropWhile]
  conv => lhs; arg 2; rw [← List.takeWhile_append_dropWhile (p := fun y => lessK y k) (l := l)]
  rw [List.take_left]
theorem drop_pos (l : List KW) (k : KW) : l.drop (posK l k) = l.dropWhile fun y => lessK y k := by
  have h := List.take_append_drop (posK l k) l
  rw [take_pos] at h
  conv at h => rhs; rw [← List.takeWhile_append_dropWhile (p := fun y => lessK y k) (l := l)]
  exact List.append_cancel_left h
theorem ksearch_rises {v : Value} {l : List KW} {w : World} (k : KW) (h : KHas w v l) (hm : l.length ≤ 100000) (hr : Rises l) :
    Calls Tryd.prog 84 #[v, k.val, .func (.func 85) #[] #[]] w (RetV w (.tuple #[.int .i64 (posK l k : Int), .bool (hitK l k (posK l k))])) := by
  refine (ksearch_any k h hm).mono ?_
  rintro e w' ⟨n, rfl, hf, hg⟩
  have h1 := (found_at hr hf).1
  have : n = posK l k := by
    unfold posK
    rw [h1, List.length_take, Nat.min_eq_left hf.1]
  subst this
  exact ⟨rfl, hg⟩
/-- A row put in where it belongs. -/
def insT {β : Type} (m : List (KW × β)) (k : KW) (v : β) : List (KW × β) := m.takeWhile (fun p => lessK p.1 k) ++ (k, v) :: m.dropWhile (fun p => lessK p.1 k)
theorem map_takeWhile' {α β : Type} (f : α → β) (p : β → Bool) : ∀ l : List α, (l.takeWhile fun x => p (f x)).map f = (l.map f).takeWhile p
  | [] => rfl
  | a :: l => by by_cases h : p (f a) <;> simp [h, map_takeWhile' f p l]
theorem map_dropWhile' {α β : Type} (f : α → β) (p : β → Bool) : ∀ l : List α, (l.dropWhile fun x => p (f x)).map f = (l.map f).dropWhile p
  | [] => rfl
  | a :: l => by by_cases h : p (f a) <;> simp [h, map_dropWhile' f p l]
theorem insT_keys {β : Type} (m : List (KW × β)) (k : KW) (v : β) : (insT m k v).map (·.1) = (m.map (·.1)).takeWhile (fun y => lessK y k) ++ k :: (m.map (·.1)).dropWhile (fun y => lessK y k) := by
  unfold insT
  have h1 := map_takeWhile' (fun p : KW × β => p.1) (fun y => lessK y k) m
  have h2 := map_dropWhile' (fun p : KW × β => p.1) (fun y => lessK y k) m
  rw [List.map_append, List.map_cons, h1, h2]
theorem insT_perm {β : Type} (m : List (KW × β)) (k : KW) (v : β) : (insT m k v).Perm ((k, v) :: m) := by
  unfold insT
  refine List.perm_middle.trans ?_
  rw [List.takeWhile_append_dropWhile]
theorem insT_length {β : Type} (m : List (KW × β)) (k : KW) (v : β) : (insT m k v).length = m.length + 1 := by rw [(insT_perm m k v).length_eq]; rfl
theorem dropWhile_not {l : List KW} (hr : Rises l) {k : KW} : ∀ y ∈ l.dropWhile (fun y => lessK y k), lessK y k = false := by
  induction l with
  | nil => simp
  | cons a l ih =>
    have hr' := List.pairwise_cons.1 hr
    by_cases h : lessK a k = true
    · rw [List.dropWhile_cons_of_pos (p := fun y => lessK y k) h]; exact ih hr'.2
    · rw [List.dropWhile_cons_of_neg (p := fun y => lessK y k) h]
      intro y hy
      rcases List.mem_cons.1 hy with rfl | hy
      · simpa using h
      · cases e : lessK y k with
        | false => rfl
        | true => exact absurd (lessK_trans (hr'.1 y hy) e) h
theorem insT_rises {β : Type} {m : List (KW × β)} (hr : Rises (m.map (·.1))) {k : KW} (hk : k ∉ m.map (·.1)) (v : β) : Rises ((insT m k v).map (·.1)) := by
  rw [insT_keys]
  have h0 := hr
  rw [← List.takeWhile_append_dropWhile (p := fun y => lessK y k) (l := m.map (·.1))] at h0
  obtain ⟨h1, h2, h3⟩ := List.pairwise_append.1 h0
  have hlt : ∀ y ∈ (m.map (·.1)).takeWhile (fun y => lessK y k), lessK y k = true := fun y hy => by
    have := List.all_takeWhile (p := fun y => lessK y k) (l := m.map (·.1))
    exact (List.all_eq_true.1 this) y hy
  have hge := dropWhile_not hr (k := k)
  refine List.pairwise_append.2 ⟨h1, List.pairwise_cons.2 ⟨fun y hy => ?_, h2⟩, fun a ha b hb => ?_⟩
  · exact lessK_total (hge y hy) (fun e => hk (by rw [← e]; exact (List.dropWhile_sublist _).subset hy))
  · rcases List.mem_cons.1 hb with rfl | hb
    · exact hlt a ha
    · exact h3 a ha b hb

/-- A table lies at block tb: its rows are m, in order; at most so many. -/
structure TabAt (T : TypeId) (w : World) (base tb : Nat) (kv : Value) (mb : Nat) (m : List (KW × Value)) (most : Nat) : Prop where
  ob : w.heap[tb]? = some (.cells #[kv, .map (some mb), .int .i64 (most : Int)] T (0, 0))
  own : KOwn w base kv (m.map (·.1))
  map : MapAt w mb (getK m)
  bt : base ≤ tb
  bm : base ≤ mb
  few : m.length ≤ most
  most : most ≤ 65536
  rises : Rises (m.map (·.1))
/-- The blocks of a table. -/
def TabS (tb : Nat) (kv : Value) (mb : Nat) (j : Nat) : Prop := j = tb ∨ j = mb ∨ kv.ownBlock = some j
variable {T : TypeId} {w w' : World} {base tb mb : Nat} {kv : Value} {m : List (KW × Value)} {most : Nat}
theorem TabAt.grows (h : TabAt T w base tb kv mb m most) (hg : Grows w w') : TabAt T w' base tb kv mb m most :=
  ⟨box_grows h.ob hg, own_grows h.own hg, h.map.grows hg, h.bt, h.bm, h.few, h.most, h.rises⟩
theorem TabAt.chg {S : Nat → Prop} (h : TabAt T w base tb kv mb m most) (hc : Chg S w w') (h1 : ¬ S tb) (h2 : ¬ S mb) (h3 : ∀ j, kv.ownBlock = some j → ¬ S j) : TabAt T w' base tb kv mb m most :=
  ⟨box_chg h.ob hc h1, hc.own h.own h3, h.map.chg hc h2, h.bt, h.bm, h.few, h.most, h.rises⟩
theorem TabAt.len (h : TabAt T w base tb kv mb m most) : ∃ a cap, kv = .slice a m.length cap := by
  obtain ⟨a, cap, e⟩ := (kown_has h.own).len (List.length_map ..)
  exact ⟨a, cap, e⟩
theorem TabAt.lt (h : TabAt T w base tb kv mb m most) : tb < w.heap.size := box_lt h.ob
theorem TabAt.mlt (h : TabAt T w base tb kv mb m most) : mb < w.heap.size := h.map.lt
theorem map_ne_cells {w : World} {b : Nat} {g : KW → Option Value} (h : MapAt w b g) {cs : Array Value} {T : TypeId} {z : Nat × Nat} (hc : w.heap[b]? = some (.cells cs T z)) : False := by
  obtain ⟨es, cl, m, h1, _⟩ := h
  rw [h1] at hc
  cases hc
theorem TabAt.ne (h : TabAt T w base tb kv mb m most) : mb ≠ tb := fun e => by have h1 := h.ob; rw [← e] at h1; exact map_ne_cells h.map h1
theorem KOwn.ty {w : World} {base : Nat} {v : Value} {l : List KW} (h : KOwn w base v l) {j : Nat} (hj : v.ownBlock = some j) : ∃ cur, w.heap[j]? = some (.cells cur 29 (0, 0)) := by
  rcases h.2 with ⟨h1, _⟩ | ⟨g, cap, cur, hv, _, hg, _⟩
  · rw [h1] at hj; simp [Value.ownBlock] at hj
  · rw [hv] at hj
    simp only [Value.ownBlock, Option.some.injEq] at hj
    subst hj
    exact ⟨cur, hg⟩
theorem TabAt.kne (h : TabAt T w base tb kv mb m most) (hT : T ≠ 29) : kv.ownBlock ≠ some tb := fun hj => by
  obtain ⟨cur, hg⟩ := h.own.ty hj
  rw [h.ob] at hg
  injection hg with hg
  injection hg with _ hg
  exact hT hg
theorem TabAt.kmne (h : TabAt T w base tb kv mb m most) : kv.ownBlock ≠ some mb := fun hj => by
  obtain ⟨cur, hg⟩ := h.own.ty hj
  exact map_ne_cells h.map hg
theorem TabAt.getK_eq (h : TabAt T w base tb kv mb m most) {k : KW} : getK m k = none ↔ k ∉ m.map (·.1) := getK_none
end Go.Proofs.YtgjieoljfcfacaaDoor
/- A row put in, a row taken out: what lies in memory behind it. -/
namespace Go.Proofs.YtgjieoljfcfacaaDoor
open Go.RowKit Go.Sort
set_option maxHeartbeats 1000000
set_option maxRecDepth 100000
/-- What Put says. -/
def putE (m : List (KW × Value)) (most : Nat) (k : KW) : Int := if getK m k ≠ none then 12 else if most ≤ m.length then 13 else 0
/-- What a call leaves that changes a table. -/
def TabTo (T : TypeId) (w : World) (base tb : Nat) (kv : Value) (mb : Nat) (m' : List (KW × Value)) (most : Nat) (r : Value) (e : Ending) (w' : World) : Prop :=
  e = .returned r ∧ ∃ kv', TabAt T w' base tb kv' mb m' most ∧ Chg (TabS tb kv mb) w w' ∧ ∀ j, kv'.ownBlock = some j → kv.ownBlock = some j ∨ w.heap.size ≤ j
theorem TabTo.same {T : TypeId} {w w' : World} {base tb mb most : Nat} {kv : Value} {m : List (KW × Value)} {r : Value} (h : TabAt T w base tb kv mb m most) (hg : Grows w w') : TabTo T w base tb kv mb m most r (.returned r) w' :=
  ⟨rfl, kv, h.grows hg, Chg.ofGrows hg, fun _ hj => .inl hj⟩
theorem Chg.putObj {S : Nat → Prop} {w w' : World} (h : Chg S w w') {b : Nat} (o : Obj) (hp : w.heap.size ≤ b ∨ S b) : Chg S w (w'.putObj b o) := by
  refine ⟨h.os, h.tape, h.output, by simpa [World.putObj] using h.size, fun k hk hS => ?_⟩
  have hne : b ≠ k := fun e => by subst e; rcases hp with hp | hp; exact Nat.lt_irrefl _ (Nat.lt_of_lt_of_le hk hp); exact hS hp
  rw [World.putObj_heap_other (fun e => hne e.symm)]
  exact h.block k hk hS
theorem MapAt.congr {w : World} {b : Nat} {g g' : KW → Option Value} (h : MapAt w b g) (he : ∀ x, g x = g' x) : MapAt w b g' := by
  obtain ⟨es, cl, m, h1, h2, h3, h4⟩ := h
  exact ⟨es, cl, m, h1, h2, h3, fun x => (h4 x).trans (he x)⟩
theorem getK_insT {m : List (KW × Value)} {k : KW} {v : Value} (hn : ((insT m k v).map (·.1)).Nodup) (x : KW) : (if x = k then some v else getK m x) = getK (insT m k v) x := by
  rw [getK_perm (insT_perm m k v) hn, getK_cons]
/-- The slice's block is not the table's. -/
theorem own_ne {T : TypeId} {w : World} {base tb : Nat} {kv : Value} {l : List KW} {cs : Array Value} (hT : T ≠ 29) (ho : KOwn w base kv l) (hob : w.heap[tb]? = some (.cells cs T (0, 0))) : kv.ownBlock ≠ some tb := fun hj => by
  obtain ⟨cur, hg⟩ := ho.ty hj
  rw [hob] at hg
  injection hg with hg
  injection hg with _ hg
  exact hT hg
theorem own_mne {w : World} {base mb : Nat} {kv : Value} {l : List KW} {g : KW → Option Value} (ho : KOwn w base kv l) (hm : MapAt w mb g) : kv.ownBlock ≠ some mb := fun hj => by
  obtain ⟨cur, hg⟩ := ho.ty hj
  exact map_ne_cells hm hg
/-- The keys' slice changed, then the map: the table behind it. -/
theorem tab_end {T : TypeId} {w w1 w3 : World} {base tb mb most : Nat} {kv kv' : Value} {m m' : List (KW × Value)} {r : Value} {o : Obj} (q : Nat) (hT : T ≠ 29) (h : TabAt T w base tb kv mb m most) (hg : Grows w w1)
    (ho : KOwn w3 base kv' (m'.map (·.1))) (hc : Chg (fun j => kv.ownBlock = some j) w1 w3) (hf : ∀ j, kv'.ownBlock = some j → kv.ownBlock = some j ∨ w1.heap.size ≤ j)
    (hm : MapAt (((w3.setCell ⟨tb, 0, none⟩ kv').drewN q).putObj mb o) mb (getK m')) (hr : Rises (m'.map (·.1))) (hfew : m'.length ≤ most) :
    TabTo T w base tb kv mb m' most r (.returned r) (((w3.setCell ⟨tb, 0, none⟩ kv').drewN q).putObj mb o) := by
  have h1 := h.grows hg
  have hob3 := box_chg h1.ob hc (h1.kne hT)
  have hmp3 := h1.map.chg hc h1.kmne
  have hne := h.ne
  have hob4 : (w3.setCell ⟨tb, 0, none⟩ kv').heap[tb]? = some (.cells #[kv', .map (some mb), .int .i64 (most : Int)] T (0, 0)) := box_setj hob3
  have hc4 : Chg (fun j => j = tb) w3 (w3.setCell ⟨tb, 0, none⟩ kv') := Chg.setCell (Chg.refl _ _) _ (.inr rfl)
  have ho4 := hc4.own ho (fun j hj e => own_ne hT ho hob3 (e ▸ hj))
  have hmp4 := hmp3.chg hc4 hne
  have hc5 : Chg (fun j => j = mb) (w3.setCell ⟨tb, 0, none⟩ kv') (((w3.setCell ⟨tb, 0, none⟩ kv').drewN q).putObj mb o) := Chg.putObj (Chg.drewN (Chg.refl _ _) q) o (.inr rfl)
  have ho5 := hc5.own ho4 (fun j hj e => own_mne ho4 hmp4 (e ▸ hj))
  have hob5 := box_chg hob4 hc5 (fun e => hne e.symm)
  refine ⟨rfl, kv', ⟨hob5, ho5, hm, h.bt, h.bm, hfew, h.most, hr⟩, ?_, fun j hj => ?_⟩
  · exact Chg.trans (Chg.ofGrows hg) (Chg.trans (hc.mono fun j _ hj => .inr (.inr hj)) (Chg.trans (hc4.mono fun j _ hj => .inl hj) (hc5.mono fun j _ hj => .inr (.inl hj))))
  · rcases hf j hj with h2 | h2
    · exact .inl h2
    · exact .inr (Nat.le_trans hg.size h2)
/-- What lies between a change of the keys' slice and one of the map. -/
def TabMid (w : World) (base tb : Nat) (kv : Value) (l : List KW) (wx : World) : Prop :=
  ∃ w1 w3 a cap, Grows w w1 ∧ KOwn w3 base (.slice a l.length cap) l ∧ Chg (fun j => kv.ownBlock = some j) w1 w3 ∧ (∀ j, (Value.slice a l.length cap).ownBlock = some j → kv.ownBlock = some j ∨ w1.heap.size ≤ j) ∧ wx = w3.setCell ⟨tb, 0, none⟩ (.slice a l.length cap)
end Go.Proofs.YtgjieoljfcfacaaDoor
/- Rows taken out: the plain laws. -/
namespace Go.Proofs.YtgjieoljfcfacaaDoor
open Go.RowKit Go.Sort
set_option maxHeartbeats 1000000
set_option maxRecDepth 100000
/-- Without a key's row. -/
def delT (m : List (KW × Value)) (k : KW) : List (KW × Value) := m.filter fun p => decide (p.1 ≠ k)
theorem delT_keys (m : List (KW × Value)) (k : KW) : (delT m k).map (·.1) = (m.map (·.1)).filter fun y => decide (y ≠ k) := by
  induction m with
  | nil => rfl
  | cons p m ih =>
    by_cases h : p.1 = k
    · simp only [delT, List.filter_cons, h, ne_eq, not_true_eq_false, decide_false, Bool.false_eq_true, if_false, List.map_cons]
      exact ih
    · simp only [delT, List.filter_cons, h, ne_eq, not_false_eq_true, decide_true, if_true, List.map_cons]
      congr 1
theorem rises_split {l : List KW} (hr : Rises l) {k : KW} (hk : k ∈ l) : ∃ A B, l = A ++ k :: B ∧ posK l k = A.length ∧ k ∉ A ∧ k ∉ B := by
  have hnd := hr.nodup
  obtain ⟨A, B, rfl⟩ := List.append_of_mem hk
  have h1 := List.nodup_append.1 hnd
  have hA : k ∉ A := fun h => h1.2.2 k h k (by simp) rfl
  have hB : k ∉ B := (List.nodup_cons.1 h1.2.1).1
  refine ⟨A, B, rfl, ?_, hA, hB⟩
  have h2 := List.pairwise_append.1 hr
  have := take_found (fun y => lessK y k) (A ++ k :: B) A.length (by simp) (fun j hj hl => by
    rw [List.getElem_append_left hj]
    exact h2.2.2 _ (List.getElem_mem hj) k (by simp)) (fun h => by simp [lessK_irrefl])
  unfold posK
  rw [this.1, List.take_left]
theorem del_keys {m : List (KW × Value)} (hr : Rises (m.map (·.1))) {k : KW} (hk : k ∈ m.map (·.1)) : (m.map (·.1)).eraseIdx (posK (m.map (·.1)) k) = (delT m k).map (·.1) ∧ posK (m.map (·.1)) k < (m.map (·.1)).length := by
  obtain ⟨A, B, h1, h2, h3, h4⟩ := rises_split hr hk
  rw [delT_keys, h2]
  constructor
  · rw [h1, List.eraseIdx_append_of_length_le (Nat.le_refl _), Nat.sub_self, List.eraseIdx_cons_zero, List.filter_append, List.filter_cons]
    simp only [ne_eq, not_true_eq_false, decide_false, Bool.false_eq_true, if_false]
    rw [List.filter_eq_self.2 (fun y hy => by simp; rintro rfl; exact h3 hy), List.filter_eq_self.2 (fun y hy => by simp; rintro rfl; exact h4 hy)]
  · rw [h1]; simp
theorem delT_rises {m : List (KW × Value)} (hr : Rises (m.map (·.1))) (k : KW) : Rises ((delT m k).map (·.1)) := by
  rw [delT_keys]; exact hr.sublist List.filter_sublist
theorem getK_delT (m : List (KW × Value)) (k x : KW) : (if x = k then none else getK m x) = getK (delT m k) x := by
  induction m with
  | nil => simp [delT, getK_nil]
  | cons p m ih =>
    rw [getK_cons]
    by_cases h : p.1 = k
    · have e : delT (p :: m) k = delT m k := by simp [delT, h]
      rw [e, ← ih]
      by_cases hx : x = k
      · simp [hx]
      · rw [if_neg hx, if_neg hx, if_neg (by rw [h]; exact hx)]
    · have e : delT (p :: m) k = p :: delT m k := by simp [delT, h]
      rw [e, getK_cons, ← ih]
      by_cases hx : x = k
      · subst hx; rw [if_pos rfl, if_neg (fun e => h e.symm), if_pos rfl]
      · rw [if_neg hx, if_neg hx]
theorem delT_few (m : List (KW × Value)) (k : KW) : (delT m k).length ≤ m.length := List.length_filter_le _ _
/-- What Del leaves: the keys' slice lies where it lay. -/
def TabDel (T : TypeId) (w : World) (base tb : Nat) (kv : Value) (mb : Nat) (m' : List (KW × Value)) (most : Nat) (r : Value) (e : Ending) (w' : World) : Prop :=
  e = .returned r ∧ ∃ kv', TabAt T w' base tb kv' mb m' most ∧ Chg (TabS tb kv mb) w w' ∧ kv'.ownBlock = kv.ownBlock
theorem TabDel.to {T : TypeId} {w w' : World} {base tb mb most : Nat} {kv r : Value} {m' : List (KW × Value)} {e : Ending} (h : TabDel T w base tb kv mb m' most r e w') : TabTo T w base tb kv mb m' most r e w' := by
  obtain ⟨h1, kv', h2, h3, h4⟩ := h
  exact ⟨h1, kv', h2, h3, fun j hj => .inl (h4 ▸ hj)⟩
theorem tab_end2 {T : TypeId} {w w1 w3 : World} {base tb mb most : Nat} {kv kv' : Value} {m m' : List (KW × Value)} {r : Value} {o : Obj} (q : Nat) (hT : T ≠ 29) (h : TabAt T w base tb kv mb m most) (hg : Grows w w1)
    (ho : KOwn w3 base kv' (m'.map (·.1))) (hc : Chg (fun j => kv.ownBlock = some j) w1 w3) (hf : kv'.ownBlock = kv.ownBlock)
    (hm : MapAt (((w3.setCell ⟨tb, 0, none⟩ kv').drewN q).putObj mb o) mb (getK m')) (hr : Rises (m'.map (·.1))) (hfew : m'.length ≤ most) :
    TabDel T w base tb kv mb m' most r (.returned r) (((w3.setCell ⟨tb, 0, none⟩ kv').drewN q).putObj mb o) := by
  have h1 := h.grows hg
  have hob3 := box_chg h1.ob hc (h1.kne hT)
  have hmp3 := h1.map.chg hc h1.kmne
  have hne := h.ne
  have hob4 : (w3.setCell ⟨tb, 0, none⟩ kv').heap[tb]? = some (.cells #[kv', .map (some mb), .int .i64 (most : Int)] T (0, 0)) := box_setj hob3
  have hc4 : Chg (fun j => j = tb) w3 (w3.setCell ⟨tb, 0, none⟩ kv') := Chg.setCell (Chg.refl _ _) _ (.inr rfl)
  have ho4 := hc4.own ho (fun j hj e => own_ne hT ho hob3 (e ▸ hj))
  have hmp4 := hmp3.chg hc4 hne
  have hc5 : Chg (fun j => j = mb) (w3.setCell ⟨tb, 0, none⟩ kv') (((w3.setCell ⟨tb, 0, none⟩ kv').drewN q).putObj mb o) := Chg.putObj (Chg.drewN (Chg.refl _ _) q) o (.inr rfl)
  have ho5 := hc5.own ho4 (fun j hj e => own_mne ho4 hmp4 (e ▸ hj))
  have hob5 := box_chg hob4 hc5 (fun e => hne e.symm)
  refine ⟨rfl, kv', ⟨hob5, ho5, hm, h.bt, h.bm, hfew, h.most, hr⟩, ?_, hf⟩
  exact Chg.trans (Chg.ofGrows hg) (Chg.trans (hc.mono fun j _ hj => .inr (.inr hj)) (Chg.trans (hc4.mono fun j _ hj => .inl hj) (hc5.mono fun j _ hj => .inr (.inl hj))))
end Go.Proofs.YtgjieoljfcfacaaDoor
