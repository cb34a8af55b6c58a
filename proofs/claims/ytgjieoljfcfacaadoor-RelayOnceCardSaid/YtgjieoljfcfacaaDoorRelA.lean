/- A relay in memory; small contracts: which kinds are flooded, whether a node is another one. -/
import Derived.Test.YtgjieoljfcfacaaDoorRelP
import Derived.Test.YtgjieoljfcfacaaDoorRelD
import Derived.Test.YtgjieoljfcfacaaDoorLateA
import Derived.Test.YtgjieoljfcfacaaDoorNodW
namespace Go.Proofs.YtgjieoljfcfacaaDoor
open Go.RowKit Go.Sort
set_option maxHeartbeats 4000000
set_option maxRecDepth 100000
/-- Bounds: fourteen numbers. -/
structure BV where
  b0 : Int
  b1 : Int
  b2 : Int
  b3 : Int
  b4 : Int
  b5 : Int
  b6 : Int
  b7 : Int
  b8 : Int
  b9 : Int
  b10 : Int
  b11 : Int
  b12 : Int
  b13 : Int
abbrev BV.cells (B : BV) : Array Value := #[.int .i64 B.b0, .int .i64 B.b1, .int .i64 B.b2, .int .i64 B.b3, .int .i64 B.b4, .int .i64 B.b5, .int .i64 B.b6, .int .i64 B.b7, .int .i64 B.b8, .int .i64 B.b9, .int .i64 B.b10, .int .i64 B.b11, .int .i64 B.b12, .int .i64 B.b13]
abbrev BV.val (B : BV) : Value := .agg B.cells
abbrev TRL : TypeId := 76
abbrev TBO : TypeId := 68
/-- A relay lies at block rb, its names at block sb. -/
structure RelayAt (w : World) (base rb sb tb : Nat) (kv : Value) (mb : Nat) (m : List (KW × Value)) (most : Nat) (me n : Int) (B : BV) : Prop where
  ob : w.heap[rb]? = some (.cells #[.pointer (some ⟨sb, 0, none⟩), .int .i64 me, .int .i64 n, .int .i64 B.b0, .int .i64 B.b1, .int .i64 B.b2, .int .i64 B.b3, .int .i64 B.b4, .int .i64 B.b5, .int .i64 B.b6, .int .i64 B.b7, .int .i64 B.b8, .int .i64 B.b9, .int .i64 B.b10, .int .i64 B.b11, .int .i64 B.b12, .int .i64 B.b13] TRL (0, 0))
  seen : SeenAt w base sb tb kv mb m most
  br : base ≤ rb
/-- The cells of a relay. -/
def RelC (w : World) (rb sb : Nat) (me n : Int) (B : BV) : Prop :=
  w.cell? ⟨rb, 0, none⟩ = some (.pointer (some ⟨sb, 0, none⟩)) ∧ w.cell? ⟨rb, 1, none⟩ = some (.int .i64 me) ∧ w.cell? ⟨rb, 2, none⟩ = some (.int .i64 n) ∧ w.cell? ⟨rb, 3, none⟩ = some (.int .i64 B.b0) ∧ w.cell? ⟨rb, 4, none⟩ = some (.int .i64 B.b1) ∧ w.cell? ⟨rb, 5, none⟩ = some (.int .i64 B.b2) ∧ w.cell? ⟨rb, 6, none⟩ = some (.int .i64 B.b3) ∧ w.cell? ⟨rb, 7, none⟩ = some (.int .i64 B.b4) ∧ w.cell? ⟨rb, 8, none⟩ = some (.int .i64 B.b5) ∧ w.cell? ⟨rb, 9, none⟩ = some (.int .i64 B.b6) ∧ w.cell? ⟨rb, 10, none⟩ = some (.int .i64 B.b7) ∧ w.cell? ⟨rb, 11, none⟩ = some (.int .i64 B.b8) ∧ w.cell? ⟨rb, 12, none⟩ = some (.int .i64 B.b9) ∧ w.cell? ⟨rb, 13, none⟩ = some (.int .i64 B.b10) ∧ w.cell? ⟨rb, 14, none⟩ = some (.int .i64 B.b11) ∧ w.cell? ⟨rb, 15, none⟩ = some (.int .i64 B.b12) ∧ w.cell? ⟨rb, 16, none⟩ = some (.int .i64 B.b13) ∧ rb < w.heap.size
section
variable {w w' : World} {base rb sb tb mb most : Nat} {kv : Value} {m m' : List (KW × Value)} {me n : Int} {B : BV}
theorem RelayAt.cells (h : RelayAt w base rb sb tb kv mb m most me n B) : RelC w rb sb me n B :=
  ⟨(cell_in h.ob 0 rfl).1, (cell_in h.ob 1 rfl).1, (cell_in h.ob 2 rfl).1, (cell_in h.ob 3 rfl).1, (cell_in h.ob 4 rfl).1, (cell_in h.ob 5 rfl).1, (cell_in h.ob 6 rfl).1, (cell_in h.ob 7 rfl).1, (cell_in h.ob 8 rfl).1, (cell_in h.ob 9 rfl).1, (cell_in h.ob 10 rfl).1, (cell_in h.ob 11 rfl).1, (cell_in h.ob 12 rfl).1, (cell_in h.ob 13 rfl).1, (cell_in h.ob 14 rfl).1, (cell_in h.ob 15 rfl).1, (cell_in h.ob 16 rfl).1, box_lt h.ob⟩
theorem RelayAt.grows (h : RelayAt w base rb sb tb kv mb m most me n B) (hg : Grows w w') : RelayAt w' base rb sb tb kv mb m most me n B := ⟨box_grows h.ob hg, h.seen.grows hg, h.br⟩
theorem RelayAt.nS (h : RelayAt w base rb sb tb kv mb m most me n B) : ¬ TabS tb kv mb rb := fun hs => by
  rcases hs with hs | hs | hs
  · have h1 := h.ob
    rw [hs, h.seen.tab.ob] at h1
    injection h1 with h1
    injection h1 with _ h1
    exact absurd h1 (by decide)
  · exact map_ne_cells h.seen.tab.map (hs ▸ h.ob)
  · obtain ⟨cur, hg⟩ := h.seen.tab.own.ty hs
    rw [h.ob] at hg
    injection hg with hg
    injection hg with _ hg
    exact absurd hg (by decide)
/-- What a call leaves that changes a relay's names. -/
def RelayTo (w : World) (base rb sb tb : Nat) (kv : Value) (mb : Nat) (m' : List (KW × Value)) (most : Nat) (me n : Int) (B : BV) (r : Value) (e : Ending) (w' : World) : Prop :=
  e = .returned r ∧ ∃ kv', RelayAt w' base rb sb tb kv' mb m' most me n B ∧ Chg (TabS tb kv mb) w w' ∧ ∀ j, kv'.ownBlock = some j → kv.ownBlock = some j ∨ w.heap.size ≤ j
theorem RelayTo.ofSeen {w1 : World} {r : Value} {e : Ending} (h : RelayAt w base rb sb tb kv mb m most me n B) (hg : Grows w w1) (ht : SeenTo w1 base sb tb kv mb m' most r e w') : RelayTo w base rb sb tb kv mb m' most me n B r e w' := by
  obtain ⟨rfl, kv', k1, k2, k3⟩ := ht
  refine ⟨rfl, kv', ⟨box_chg (box_grows h.ob hg) k2 h.nS, k1, h.br⟩, (Chg.ofGrows hg).trans k2, fun j hj => ?_⟩
  rcases k3 j hj with h1 | h1
  · exact .inl h1
  · exact .inr (Nat.le_trans hg.size h1)
theorem RelayTo.same {r : Value} (h : RelayAt w base rb sb tb kv mb m most me n B) (hg : Grows w w') : RelayTo w base rb sb tb kv mb m most me n B r (.returned r) w' :=
  ⟨rfl, kv, h.grows hg, Chg.ofGrows hg, fun _ hj => .inl hj⟩
theorem RelayTo.behind {W0 : World} {r : Value} {e : Ending} (h : RelayAt w base rb sb tb kv mb m most me n B) (hb : W0.heap.size ≤ base) (hg : Grows W0 w) (ht : RelayTo w base rb sb tb kv mb m' most me n B r e w') : Grows W0 w' := by
  obtain ⟨-, kv', k1, k2, k3⟩ := ht
  refine Below.trans hg (k2.toBelow hg.size (fun j hj hs => ?_))
  rcases hs with hs | hs | hs
  · have := h.seen.tab.bt; omega
  · have := h.seen.tab.bm; omega
  · have := (h.seen.tab.own.lt _ hs).1; omega
end
theorem ret_bool' {a b : Bool} (h : a = b) : Ending.returned (.bool a) = .returned (.bool b) := by rw [h]
/-- Is a kind flooded? -/
def floodB (k : Int) : Bool := decide (3 ≤ k ∧ k ≤ 6)
theorem flood_any (k : Int) (w : World) : Calls Tryd.prog 36 #[.int .i64 k] w (fun e w' => e = .returned (.bool (floodB k)) ∧ w = w') := by
  go_enter Tryd.func36, Tryd.ntmps36
  go_wp2
  all_goals (go_ret; refine ⟨ret_bool' ?_, rfl⟩; rw [Bool.eq_iff_iff]; simp [floodB]; try omega)
theorem rflood_any (k : Int) (w : World) : Calls Tryd.prog 34 #[.int .i64 k] w (fun e w' => e = .returned (.bool (floodB k)) ∧ w = w') := by
  go_enter Tryd.func34, Tryd.ntmps34
  go_wp2
  all_goals (go_ret; refine ⟨ret_bool' ?_, rfl⟩; rw [Bool.eq_iff_iff]; simp [floodB]; try omega)
/-- May there be so many hops? -/
def hopsB (k : Int) : Bool := decide (1 ≤ k ∧ k ≤ 63)
theorem hops_any (k : Int) (w : World) : Calls Tryd.prog 61 #[.int .i64 k] w (fun e w' => e = .returned (.bool (hopsB k)) ∧ w = w') := by
  go_enter Tryd.func61, Tryd.ntmps61
  go_wp2
  all_goals (go_ret; refine ⟨ret_bool' ?_, rfl⟩; rw [Bool.eq_iff_iff]; simp [hopsB]; try omega)
/-- Is it another node? -/
def otherB (me n f : Int) : Bool := decide (f ≠ me ∧ 0 ≤ f ∧ f < n)
theorem other_any {w : World} {base rb sb tb mb most : Nat} {kv : Value} {m : List (KW × Value)} {me n : Int} {B : BV} (f : Int) (h : RelayAt w base rb sb tb kv mb m most me n B) :
    Calls Tryd.prog 37 #[.pointer (some ⟨rb, 0, none⟩), .int .i64 f] w (fun e w' => e = .returned (.bool (otherB me n f)) ∧ w = w') := by
  obtain ⟨-, c1, c2, -⟩ := h.cells
  have z := box_lt h.ob
  clear h
  by_cases h1 : f = me
  · have e1 : (f != me) = false := by simp [h1]
    have e2 : (f == me) = true := by simp [h1]
    have eo : otherB me n f = false := by simp [otherB, h1]
    rw [eo]
    go_enter Tryd.func37, Tryd.ntmps37
    go_wp2
    go_ret
    exact ⟨rfl, rfl⟩
  · have e1 : (f != me) = true := by simp [h1]
    have e2 : (f == me) = false := by simp [h1]
    by_cases h2 : 0 ≤ f
    · by_cases h3 : f < n
      · have eo : otherB me n f = true := by simp [otherB, h1, h2, h3]
        rw [eo]
        go_enter Tryd.func37, Tryd.ntmps37
        go_wp2
        go_ret
        exact ⟨rfl, rfl⟩
      · have eo : otherB me n f = false := by simp [otherB, h3]
        rw [eo]
        go_enter Tryd.func37, Tryd.ntmps37
        go_wp2
        go_ret
        exact ⟨rfl, rfl⟩
    · have eo : otherB me n f = false := by simp [otherB, h2]
      rw [eo]
      go_enter Tryd.func37, Tryd.ntmps37
      go_wp2
      go_ret
      exact ⟨rfl, rfl⟩
abbrev PW.at' (x : PW) (ba : Option Addr) (bl bc : Nat) : PW := { x with ba := ba, bl := bl, bc := bc }
section
attribute [-go_sem] run_eql_struct run_neq_struct
theorem rsame_any (x : PW) (ba : Option Addr) (bl bc : Nat) (b : List Int) (w : World) (hx : BHas w x.ba x.bl x.bc b) (hy : BHas w ba bl bc b) :
    Calls Tryd.prog 18 #[x.val, (x.at' ba bl bc).val] w (RetV w (.bool true)) := by
  obtain ⟨W, eW⟩ : ∃ W, (w.alloc (.cells x.cells TPK)).alloc (.cells (x.at' ba bl bc).cells TPK) = W := ⟨_, rfl⟩
  have hn := two_new w (.cells x.cells TPK) (.cells (x.at' ba bl bc).cells TPK)
  have hg : Grows w W := by rw [← eW]; exact bl_alloc (bl_alloc (Below.refl _ _) _) _
  rw [eW] at hn
  have c1 := conv_bytes (hx.grows hg)
  have c2 := conv_bytes (hy.grows hg)
  have HG := Lib.hid hg
  have hk := key_eql x.k x.k W
  simp only [decide_true] at hk
  obtain ⟨x0, x1, x2, x3, x4, x5, x6, x7, x8, x9, x10, x11, x12⟩ := pat_of hn.1
  obtain ⟨y0, y1, y2, y3, y4, y5, y6, y7, y8, y9, y10, y11, y12⟩ := pat_of hn.2
  simp only [PW.cells, PW.body, PW.at'] at eW
  clear hx hy hg hn
  simp only [PW.val, PW.cells, PW.body, PW.at']
  go_enter Tryd.func18, Tryd.ntmps18
  go_wp2_with fail
  go_ret
  exact ⟨rfl, HG.out⟩
end
end Go.Proofs.YtgjieoljfcfacaaDoor
