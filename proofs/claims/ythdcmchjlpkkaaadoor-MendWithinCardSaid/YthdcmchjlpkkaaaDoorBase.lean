/- Small words and laws that all walks of this seat share: what a call gives back, worlds that have only grown, regions whose callees only make new memory. -/
import Derived.Test.YthdcmchjlpkkaaaDoorRows
import Derived.WalkKit
import Derived.WalkSpells
import Derived.WalkLawsBesides
import Derived.Lib.Hide
import Derived.Lib.QuietBelow
import Derived.BigQuiet
import Derived.BigRegion
import Derived.Deep.RegionHeld3
import Derived.Deep.DeepCutAuto
import Derived.Deep.DrawnRows
namespace Go.Proofs.YthdcmchjlpkkaaaDoor
open Go.RowKit Go.Sort

/-- The call gives back v; what was there is as it was. -/
def RetV (w : World) (v : Value) (e : Ending) (w' : World) : Prop := e = .returned v ∧ Below w.heap.size w w'
/-- The call gives back a bool of which P holds; what was there is as it was. -/
def RetB (w : World) (P : Bool → Prop) (e : Ending) (w' : World) : Prop := ∃ b : Bool, P b ∧ e = .returned (.bool b) ∧ Below w.heap.size w w'
/-- The call gives back a value of which P holds; what was there is as it was. -/
def RetP (w : World) (P : Value → Prop) (e : Ending) (w' : World) : Prop := ∃ v : Value, P v ∧ e = .returned v ∧ Below w.heap.size w w'

/-- The world w with some blocks laid behind it, after some draws. -/
def reg (w : World) (p : Regrown) : World := grow (redrawn w p.d) p.os
def rgApp (p q : Regrown) : Regrown := ⟨q.d, p.os ++ q.os⟩
def rgMore (p : Regrown) (n : Nat) : Regrown := ⟨p.d + n, p.os⟩

theorem below_reg (w : World) (p : Regrown) : Below w.heap.size w (reg w p) := below_regrown w p.d p.os
theorem regr {W w1 : World} (h : Below W.heap.size W w1) : ∃ p : Regrown, w1 = reg W p := regrown_of_below h
section
variable (w : World) (p q : Regrown) (b o : Nat)
theorem reg_cell (h : b < w.heap.size) : (reg w p).cell? ⟨b, o, none⟩ = w.cell? ⟨b, o, none⟩ := (below_reg w p).cell (p := ⟨b, o, none⟩) h
theorem reg_frozen (h : b < w.heap.size) : (reg w p).frozen? ⟨b, o, none⟩ = w.frozen? ⟨b, o, none⟩ := (below_reg w p).frozen (p := ⟨b, o, none⟩) h
theorem reg_heap (h : b < w.heap.size) : (reg w p).heap[b]? = w.heap[b]? := (below_reg w p).block b h
theorem reg_size : (reg w p).heap.size = w.heap.size + p.os.size := by simp [reg, redrawn]
theorem reg_setCell (v : Value) (h : b < w.heap.size) : (reg w p).setCell ⟨b, o, none⟩ v = reg (w.setCell ⟨b, o, none⟩ v) p := by
  simp only [World.setCell, grow, redrawn, reg]
  rw [modify_append_left _ _ _ _ h]
theorem reg_reg : reg (reg w p) q = reg w (rgApp p q) := by simp [reg, grow, redrawn, rgApp, Array.append_assoc]
theorem reg_drew : (reg w p).drew = reg w (rgMore p 1) := rfl
theorem reg_drewN (n : Nat) : (reg w p).drewN n = reg w (rgMore p n) := rfl
theorem drew_reg : reg w.drew p = reg w p := rfl
theorem drewN_reg (n : Nat) : reg (w.drewN n) p = reg w p := rfl
end
attribute [go_sem] reg_cell reg_frozen reg_size reg_setCell reg_reg reg_drew reg_drewN drew_reg drewN_reg

/-! Numbers of blocks, as the walk spells them. -/
theorem blt_0_1 (a n : Nat) : a < a + 1 + n := by omega
theorem bne_0_1 (a n : Nat) : (a = a + 1 + n) = False := by simp; omega
theorem bni_0_1 (a n : Nat) : (a + 1 + n = a) = False := by simp; omega
theorem blt_0_2 (a n : Nat) : a < a + 1 + 1 + n := by omega
theorem bne_0_2 (a n : Nat) : (a = a + 1 + 1 + n) = False := by simp; omega
theorem bni_0_2 (a n : Nat) : (a + 1 + 1 + n = a) = False := by simp; omega
theorem blt_1_2 (a n : Nat) : a + 1 < a + 1 + 1 + n := by omega
theorem bne_1_2 (a n : Nat) : (a + 1 = a + 1 + 1 + n) = False := by simp; omega
theorem bni_1_2 (a n : Nat) : (a + 1 + 1 + n = a + 1) = False := by simp; omega
theorem blt_0_3 (a n : Nat) : a < a + 1 + 1 + 1 + n := by omega
theorem bne_0_3 (a n : Nat) : (a = a + 1 + 1 + 1 + n) = False := by simp; omega
theorem bni_0_3 (a n : Nat) : (a + 1 + 1 + 1 + n = a) = False := by simp; omega
theorem blt_1_3 (a n : Nat) : a + 1 < a + 1 + 1 + 1 + n := by omega
theorem bne_1_3 (a n : Nat) : (a + 1 = a + 1 + 1 + 1 + n) = False := by simp; omega
theorem bni_1_3 (a n : Nat) : (a + 1 + 1 + 1 + n = a + 1) = False := by simp; omega
theorem blt_2_3 (a n : Nat) : a + 1 + 1 < a + 1 + 1 + 1 + n := by omega
theorem bne_2_3 (a n : Nat) : (a + 1 + 1 = a + 1 + 1 + 1 + n) = False := by simp; omega
theorem bni_2_3 (a n : Nat) : (a + 1 + 1 + 1 + n = a + 1 + 1) = False := by simp; omega
theorem blt_0_4 (a n : Nat) : a < a + 1 + 1 + 1 + 1 + n := by omega
theorem bne_0_4 (a n : Nat) : (a = a + 1 + 1 + 1 + 1 + n) = False := by simp; omega
theorem bni_0_4 (a n : Nat) : (a + 1 + 1 + 1 + 1 + n = a) = False := by simp; omega
theorem blt_1_4 (a n : Nat) : a + 1 < a + 1 + 1 + 1 + 1 + n := by omega
theorem bne_1_4 (a n : Nat) : (a + 1 = a + 1 + 1 + 1 + 1 + n) = False := by simp; omega
theorem bni_1_4 (a n : Nat) : (a + 1 + 1 + 1 + 1 + n = a + 1) = False := by simp; omega
theorem blt_2_4 (a n : Nat) : a + 1 + 1 < a + 1 + 1 + 1 + 1 + n := by omega
theorem bne_2_4 (a n : Nat) : (a + 1 + 1 = a + 1 + 1 + 1 + 1 + n) = False := by simp; omega
theorem bni_2_4 (a n : Nat) : (a + 1 + 1 + 1 + 1 + n = a + 1 + 1) = False := by simp; omega
theorem blt_3_4 (a n : Nat) : a + 1 + 1 + 1 < a + 1 + 1 + 1 + 1 + n := by omega
theorem bne_3_4 (a n : Nat) : (a + 1 + 1 + 1 = a + 1 + 1 + 1 + 1 + n) = False := by simp; omega
theorem bni_3_4 (a n : Nat) : (a + 1 + 1 + 1 + 1 + n = a + 1 + 1 + 1) = False := by simp; omega
theorem blt_0_5 (a n : Nat) : a < a + 1 + 1 + 1 + 1 + 1 + n := by omega
theorem bne_0_5 (a n : Nat) : (a = a + 1 + 1 + 1 + 1 + 1 + n) = False := by simp; omega
theorem bni_0_5 (a n : Nat) : (a + 1 + 1 + 1 + 1 + 1 + n = a) = False := by simp; omega
theorem blt_1_5 (a n : Nat) : a + 1 < a + 1 + 1 + 1 + 1 + 1 + n := by omega
theorem bne_1_5 (a n : Nat) : (a + 1 = a + 1 + 1 + 1 + 1 + 1 + n) = False := by simp; omega
theorem bni_1_5 (a n : Nat) : (a + 1 + 1 + 1 + 1 + 1 + n = a + 1) = False := by simp; omega
theorem blt_2_5 (a n : Nat) : a + 1 + 1 < a + 1 + 1 + 1 + 1 + 1 + n := by omega
theorem bne_2_5 (a n : Nat) : (a + 1 + 1 = a + 1 + 1 + 1 + 1 + 1 + n) = False := by simp; omega
theorem bni_2_5 (a n : Nat) : (a + 1 + 1 + 1 + 1 + 1 + n = a + 1 + 1) = False := by simp; omega
theorem blt_3_5 (a n : Nat) : a + 1 + 1 + 1 < a + 1 + 1 + 1 + 1 + 1 + n := by omega
theorem bne_3_5 (a n : Nat) : (a + 1 + 1 + 1 = a + 1 + 1 + 1 + 1 + 1 + n) = False := by simp; omega
theorem bni_3_5 (a n : Nat) : (a + 1 + 1 + 1 + 1 + 1 + n = a + 1 + 1 + 1) = False := by simp; omega
theorem blt_4_5 (a n : Nat) : a + 1 + 1 + 1 + 1 < a + 1 + 1 + 1 + 1 + 1 + n := by omega
theorem bne_4_5 (a n : Nat) : (a + 1 + 1 + 1 + 1 = a + 1 + 1 + 1 + 1 + 1 + n) = False := by simp; omega
theorem bni_4_5 (a n : Nat) : (a + 1 + 1 + 1 + 1 + 1 + n = a + 1 + 1 + 1 + 1) = False := by simp; omega
theorem blt_0_6 (a n : Nat) : a < a + 1 + 1 + 1 + 1 + 1 + 1 + n := by omega
theorem bne_0_6 (a n : Nat) : (a = a + 1 + 1 + 1 + 1 + 1 + 1 + n) = False := by simp; omega
theorem bni_0_6 (a n : Nat) : (a + 1 + 1 + 1 + 1 + 1 + 1 + n = a) = False := by simp; omega
theorem blt_1_6 (a n : Nat) : a + 1 < a + 1 + 1 + 1 + 1 + 1 + 1 + n := by omega
theorem bne_1_6 (a n : Nat) : (a + 1 = a + 1 + 1 + 1 + 1 + 1 + 1 + n) = False := by simp; omega
theorem bni_1_6 (a n : Nat) : (a + 1 + 1 + 1 + 1 + 1 + 1 + n = a + 1) = False := by simp; omega
theorem blt_2_6 (a n : Nat) : a + 1 + 1 < a + 1 + 1 + 1 + 1 + 1 + 1 + n := by omega
theorem bne_2_6 (a n : Nat) : (a + 1 + 1 = a + 1 + 1 + 1 + 1 + 1 + 1 + n) = False := by simp; omega
theorem bni_2_6 (a n : Nat) : (a + 1 + 1 + 1 + 1 + 1 + 1 + n = a + 1 + 1) = False := by simp; omega
theorem blt_3_6 (a n : Nat) : a + 1 + 1 + 1 < a + 1 + 1 + 1 + 1 + 1 + 1 + n := by omega
theorem bne_3_6 (a n : Nat) : (a + 1 + 1 + 1 = a + 1 + 1 + 1 + 1 + 1 + 1 + n) = False := by simp; omega
theorem bni_3_6 (a n : Nat) : (a + 1 + 1 + 1 + 1 + 1 + 1 + n = a + 1 + 1 + 1) = False := by simp; omega
theorem blt_4_6 (a n : Nat) : a + 1 + 1 + 1 + 1 < a + 1 + 1 + 1 + 1 + 1 + 1 + n := by omega
theorem bne_4_6 (a n : Nat) : (a + 1 + 1 + 1 + 1 = a + 1 + 1 + 1 + 1 + 1 + 1 + n) = False := by simp; omega
theorem bni_4_6 (a n : Nat) : (a + 1 + 1 + 1 + 1 + 1 + 1 + n = a + 1 + 1 + 1 + 1) = False := by simp; omega
theorem blt_5_6 (a n : Nat) : a + 1 + 1 + 1 + 1 + 1 < a + 1 + 1 + 1 + 1 + 1 + 1 + n := by omega
theorem bne_5_6 (a n : Nat) : (a + 1 + 1 + 1 + 1 + 1 = a + 1 + 1 + 1 + 1 + 1 + 1 + n) = False := by simp; omega
theorem bni_5_6 (a n : Nat) : (a + 1 + 1 + 1 + 1 + 1 + 1 + n = a + 1 + 1 + 1 + 1 + 1) = False := by simp; omega
theorem blt_0_7 (a n : Nat) : a < a + 1 + 1 + 1 + 1 + 1 + 1 + 1 + n := by omega
theorem bne_0_7 (a n : Nat) : (a = a + 1 + 1 + 1 + 1 + 1 + 1 + 1 + n) = False := by simp; omega
theorem bni_0_7 (a n : Nat) : (a + 1 + 1 + 1 + 1 + 1 + 1 + 1 + n = a) = False := by simp; omega
theorem blt_1_7 (a n : Nat) : a + 1 < a + 1 + 1 + 1 + 1 + 1 + 1 + 1 + n := by omega
theorem bne_1_7 (a n : Nat) : (a + 1 = a + 1 + 1 + 1 + 1 + 1 + 1 + 1 + n) = False := by simp; omega
theorem bni_1_7 (a n : Nat) : (a + 1 + 1 + 1 + 1 + 1 + 1 + 1 + n = a + 1) = False := by simp; omega
theorem blt_2_7 (a n : Nat) : a + 1 + 1 < a + 1 + 1 + 1 + 1 + 1 + 1 + 1 + n := by omega
theorem bne_2_7 (a n : Nat) : (a + 1 + 1 = a + 1 + 1 + 1 + 1 + 1 + 1 + 1 + n) = False := by simp; omega
theorem bni_2_7 (a n : Nat) : (a + 1 + 1 + 1 + 1 + 1 + 1 + 1 + n = a + 1 + 1) = False := by simp; omega
theorem blt_3_7 (a n : Nat) : a + 1 + 1 + 1 < a + 1 + 1 + 1 + 1 + 1 + 1 + 1 + n := by omega
theorem bne_3_7 (a n : Nat) : (a + 1 + 1 + 1 = a + 1 + 1 + 1 + 1 + 1 + 1 + 1 + n) = False := by simp; omega
theorem bni_3_7 (a n : Nat) : (a + 1 + 1 + 1 + 1 + 1 + 1 + 1 + n = a + 1 + 1 + 1) = False := by simp; omega
theorem blt_4_7 (a n : Nat) : a + 1 + 1 + 1 + 1 < a + 1 + 1 + 1 + 1 + 1 + 1 + 1 + n := by omega
theorem bne_4_7 (a n : Nat) : (a + 1 + 1 + 1 + 1 = a + 1 + 1 + 1 + 1 + 1 + 1 + 1 + n) = False := by simp; omega
theorem bni_4_7 (a n : Nat) : (a + 1 + 1 + 1 + 1 + 1 + 1 + 1 + n = a + 1 + 1 + 1 + 1) = False := by simp; omega
theorem blt_5_7 (a n : Nat) : a + 1 + 1 + 1 + 1 + 1 < a + 1 + 1 + 1 + 1 + 1 + 1 + 1 + n := by omega
theorem bne_5_7 (a n : Nat) : (a + 1 + 1 + 1 + 1 + 1 = a + 1 + 1 + 1 + 1 + 1 + 1 + 1 + n) = False := by simp; omega
theorem bni_5_7 (a n : Nat) : (a + 1 + 1 + 1 + 1 + 1 + 1 + 1 + n = a + 1 + 1 + 1 + 1 + 1) = False := by simp; omega
theorem blt_6_7 (a n : Nat) : a + 1 + 1 + 1 + 1 + 1 + 1 < a + 1 + 1 + 1 + 1 + 1 + 1 + 1 + n := by omega
theorem bne_6_7 (a n : Nat) : (a + 1 + 1 + 1 + 1 + 1 + 1 = a + 1 + 1 + 1 + 1 + 1 + 1 + 1 + n) = False := by simp; omega
theorem bni_6_7 (a n : Nat) : (a + 1 + 1 + 1 + 1 + 1 + 1 + 1 + n = a + 1 + 1 + 1 + 1 + 1 + 1) = False := by simp; omega
theorem blt_more0 {a b : Nat} (n : Nat) (h : a < b) : a < b + n := by omega
theorem bne_more0 {a b : Nat} (n : Nat) (h : a < b) : (a = b + n) = False := by simp; omega
theorem bni_more0 {a b : Nat} (n : Nat) (h : a < b) : (b + n = a) = False := by simp; omega
theorem blt_more1 {a b : Nat} (n : Nat) (h : a < b) : a < b + 1 + n := by omega
theorem bne_more1 {a b : Nat} (n : Nat) (h : a < b) : (a = b + 1 + n) = False := by simp; omega
theorem bni_more1 {a b : Nat} (n : Nat) (h : a < b) : (b + 1 + n = a) = False := by simp; omega
theorem blt_more2 {a b : Nat} (n : Nat) (h : a < b) : a < b + 1 + 1 + n := by omega
theorem bne_more2 {a b : Nat} (n : Nat) (h : a < b) : (a = b + 1 + 1 + n) = False := by simp; omega
theorem bni_more2 {a b : Nat} (n : Nat) (h : a < b) : (b + 1 + 1 + n = a) = False := by simp; omega
theorem blt_more3 {a b : Nat} (n : Nat) (h : a < b) : a < b + 1 + 1 + 1 + n := by omega
theorem bne_more3 {a b : Nat} (n : Nat) (h : a < b) : (a = b + 1 + 1 + 1 + n) = False := by simp; omega
theorem bni_more3 {a b : Nat} (n : Nat) (h : a < b) : (b + 1 + 1 + 1 + n = a) = False := by simp; omega
theorem blt_more4 {a b : Nat} (n : Nat) (h : a < b) : a < b + 1 + 1 + 1 + 1 + n := by omega
theorem bne_more4 {a b : Nat} (n : Nat) (h : a < b) : (a = b + 1 + 1 + 1 + 1 + n) = False := by simp; omega
theorem bni_more4 {a b : Nat} (n : Nat) (h : a < b) : (b + 1 + 1 + 1 + 1 + n = a) = False := by simp; omega
attribute [go_sem] blt_0_1 bne_0_1 bni_0_1 blt_0_2 bne_0_2 bni_0_2 blt_1_2 bne_1_2 bni_1_2 blt_0_3 bne_0_3 bni_0_3 blt_1_3 bne_1_3 bni_1_3 blt_2_3 bne_2_3 bni_2_3 blt_0_4 bne_0_4 bni_0_4 blt_1_4 bne_1_4 bni_1_4 blt_2_4 bne_2_4 bni_2_4 blt_3_4 bne_3_4 bni_3_4 blt_0_5 bne_0_5 bni_0_5 blt_1_5 bne_1_5 bni_1_5 blt_2_5 bne_2_5 bni_2_5 blt_3_5 bne_3_5 bni_3_5 blt_4_5 bne_4_5 bni_4_5 blt_0_6 bne_0_6 bni_0_6 blt_1_6 bne_1_6 bni_1_6 blt_2_6 bne_2_6 bni_2_6 blt_3_6 bne_3_6 bni_3_6 blt_4_6 bne_4_6 bni_4_6 blt_5_6 bne_5_6 bni_5_6 blt_0_7 bne_0_7 bni_0_7 blt_1_7 bne_1_7 bni_1_7 blt_2_7 bne_2_7 bni_2_7 blt_3_7 bne_3_7 bni_3_7 blt_4_7 bne_4_7 bni_4_7 blt_5_7 bne_5_7 bni_5_7 blt_6_7 bne_6_7 bni_6_7 blt_more0 bne_more0 bni_more0 blt_more1 bne_more1 bni_more1 blt_more2 bne_more2 bni_more2 blt_more3 bne_more3 bni_more3 blt_more4 bne_more4 bni_more4

theorem bl_alloc {w w' : World} (h : Below w.heap.size w w') (o : Obj) : Below w.heap.size w (w'.alloc o) := h.alloc h.size o
theorem bl_set {w w' : World} (h : Below w.heap.size w w') {p : Addr} (hp : w.heap.size ≤ p.block) (u : Value) : Below w.heap.size w (w'.setCell p u) := h.setCell hp u
theorem bl_drew {w w' : World} (h : Below w.heap.size w w') : Below w.heap.size w w'.drew := h.drew
theorem bl_drewN {w w' : World} (h : Below w.heap.size w w') (n : Nat) : Below w.heap.size w (w'.drewN n) := h.trans ⟨rfl, rfl, rfl, Nat.le_refl _, fun _ _ => rfl⟩
theorem bl_trans {w w' w'' : World} (h : Below w.heap.size w w') (h' : Below w'.heap.size w' w'') : Below w.heap.size w w'' := h.trans (h'.mono h.size)
theorem bl_reg {w w' : World} (h : Below w.heap.size w w') (p : Regrown) : Below w.heap.size w (reg w' p) := bl_trans h (below_reg w' p)

/-- A callee met in a world of whatever class: it leaves the world alone. -/
theorem class_same {P : Program} {f : FuncId} {args : Array Value} {w : World} {v : Value} {C : World → Prop}
    (h : Calls P f args w fun e w' => e = .returned v ∧ w = w') (hC : C w) : Calls P f args w fun e w'' => e = .returned v ∧ C w'' :=
  h.mono fun _ _ ⟨he, hm⟩ => ⟨he, hm ▸ hC⟩
/-- .. it makes new memory alone, in a world of the class 'reg w'. -/
theorem class_reg {P : Program} {f : FuncId} {args : Array Value} {w : World} {p : Regrown} {v : Value}
    (h : Calls P f args (reg w p) (RetV (reg w p) v)) : Calls P f args (reg w p) fun e w'' => e = .returned v ∧ ∃ p : Regrown, w'' = reg w p :=
  h.mono fun _ _ ⟨he, hb⟩ => ⟨he, by obtain ⟨q, rfl⟩ := regr hb; exact ⟨_, reg_reg w p q⟩⟩

theorem wp_region_reg {P : Program} {id : Nat} {Q : Exit → Act → World → Prop} {a : Act} {w : World} {l : List Oper} (hm : P.follows .mixedOrders = true) (hB : Region.lexB .any l.toArray = true)
    (h : wpQuiet P l.toArray (fun w' => ∃ p : Regrown, w' = reg w p) (fun a' => ∀ w', (∃ p : Regrown, w' = reg w p) → Q .normal a' w') l a) : (Code.region id l.toArray true).wp P Q a w :=
  wp_region_quiet (C := fun w' => ∃ p : Regrown, w' = reg w p) hm hB ⟨⟨w.drawn + 1, #[]⟩, by rw [reg, grow_empty]; rfl⟩ (by simpa using h)

theorem wrapEq (x : Int) : IntKind.i64.wrap x = wrap64 x := IntWalk.i64_left x
theorem ret_int {k : IntKind} {a b : Int} (h : a = b) : Ending.returned (.int k a) = .returned (.int k b) := by rw [h]
theorem ret_bool {a b : Bool} (h : a = b) : Ending.returned (.bool a) = .returned (.bool b) := by rw [h]
end Go.Proofs.YthdcmchjlpkkaaaDoor
