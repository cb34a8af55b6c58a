/- A drawn region that appends one number to a row of the call's own: how far it has come. -/
import Derived.Test.YthdcmchjlpkkaaaDoorMndG
namespace Go.Proofs.YthdcmchjlpkkaaaDoor.Tr
open Go.RowKit Go.Sort
set_option maxHeartbeats 4000000
set_option maxRecDepth 100000
/-- Operation ib makes the literal's block (slot db), operation ia appends (slot da). -/
def PJ (base : Nat) (v : Value) (l : List Int) (x : Int) (ib ia db da : Nat) (fl : Nat → Bool) (vals : Nat → Value) (w : World) : Prop :=
  base ≤ w.heap.size ∧
  ((fl ib = false ∧ fl ia = false ∧ GOwn ic 1 2 w base v l) ∨
  (fl ib = true ∧ fl ia = false ∧ GOwn ic 1 2 w base v l ∧ ∃ g, vals db = .slice (some g) 1 1 ∧ w.cell? g = some (.int .i64 x)) ∨
  (fl ib = true ∧ fl ia = true ∧ GOwn ic 1 2 w base (vals da) (l ++ [x])))
section
variable {base ib ia db da : Nat} {v : Value} {l : List Int} {x : Int} {fl fl' : Nat → Bool} {vals vals' : Nat → Value} {w w' : World}
theorem PJ.of (h : PJ base v l x ib ia db da fl vals w) (hg : Grows w w') (h1 : fl' ib = fl ib) (h2 : fl' ia = fl ia) (h3 : vals' db = vals db) (h4 : vals' da = vals da) : PJ base v l x ib ia db da fl' vals' w' := by
  refine ⟨Nat.le_trans h.1 hg.size, ?_⟩
  rw [h1, h2, h3, h4]
  rcases h.2 with ⟨a1, a2, a3⟩ | ⟨a1, a2, a3, g, a4, a5⟩ | ⟨a1, a2, a3⟩
  · exact .inl ⟨a1, a2, own_grows a3 hg⟩
  · exact .inr (.inl ⟨a1, a2, own_grows a3 hg, g, a4, box_cell_grows a5 hg⟩)
  · exact .inr (.inr ⟨a1, a2, own_grows a3 hg⟩)
/-- .. where only cells that are no part of these blocks change. -/
theorem PJ.chg {S : Nat → Prop} (h : PJ base v l x ib ia db da fl vals w) (hc : Chg S w w') (hS : ∀ j, S j → j < base) (hia : fl ia = true) (h1 : fl' ib = fl ib) (h2 : fl' ia = fl ia) (h4 : vals' da = vals da) : PJ base v l x ib ia db da fl' vals' w' := by
  refine ⟨Nat.le_trans h.1 hc.size, ?_⟩
  rw [h1, h2, h4]
  rcases h.2 with ⟨a1, a2, a3⟩ | ⟨a1, a2, _⟩ | ⟨a1, a2, a3⟩
  · rw [hia] at a2; cases a2
  · rw [hia] at a2; cases a2
  · exact .inr (.inr ⟨a1, a2, hc.own a3 (fun j hj hs => by have := (a3.lt j hj).1; have := hS j hs; omega)⟩)
theorem PJ.s {i : Nat} {d : Option Nat} {y : Value} (h : PJ base v l x ib ia db da fl vals w) (hg : Grows w w') (h1 : ib ≠ i := by decide) (h2 : ia ≠ i := by decide) (h3 : d ≠ some db := by decide) (h4 : d ≠ some da := by decide) : PJ base v l x ib ia db da (uF i fl) (uV d y vals) w' :=
  h.of hg (by simp [uF, h1]) (by simp [uF, h2]) (by simp [uV, h3]) (by simp [uV, h4])
theorem PJ.build (h : PJ base v l x ib ia db da fl vals w) (h0 : fl ib = false) (hne : ia ≠ ib := by decide) : PJ base v l x ib ia db da (uF ib fl) (uV (some db) (.slice (some ⟨w.heap.size, 0, none⟩) 1 1) vals) (w.alloc (.cells #[.int .i64 x] 2)) := by
  have hg : Grows w (w.alloc (.cells #[.int .i64 x] 2)) := bl_alloc (Below.refl _ _) _
  refine ⟨Nat.le_trans h.1 hg.size, ?_⟩
  rcases h.2 with ⟨a1, a2, a3⟩ | ⟨a1, -⟩ | ⟨a1, -⟩
  · exact .inr (.inl ⟨by simp [uF], by simp [uF, a2, hne], own_grows a3 hg, ⟨w.heap.size, 0, none⟩, by simp [uV], (cell_in (heap_alloc_new w _) 0 rfl).1⟩)
  · rw [h0] at a1; cases a1
  · rw [h0] at a1; cases a1
theorem PJ.app (h : PJ base v l x ib ia db da fl vals w) (hl : l.length ≤ 1000) (h13 : fl ib = true) (h14 : fl ia = false) (hne : ib ≠ ia := by decide) :
    ∃ v' W', (∀ ty, (Builtin.append_ #[27, 27] ty #[v, vals db]).run Tryd.prog w = .ok v' W') ∧ PJ base v l x ib ia db da (uF ia fl) (uV (some da) v' vals) W' ∧ w.grownBy W' v.ownBlock ∧ GOwn ic 1 2 w base v l := by
  rcases h.2 with ⟨a1, -⟩ | ⟨a1, a2, a5, g, a6, a7⟩ | ⟨_, a1, -⟩
  · rw [h13] at a1; cases a1
  · obtain ⟨v', W', h1, h2, h3⟩ := gapp_run kindI64 a5 (GSrc.of a7) (by simp; omega) h.1
    rw [← a6] at h1
    refine ⟨v', W', h1, ⟨Nat.le_trans h.1 h3.size, .inr (.inr ⟨by simp [uF, a1], by simp [uF], ?_⟩)⟩, h3, a5⟩
    have e : uV (some da) v' vals da = v' := by simp [uV]
    rw [e]
    exact h2
  · rw [h14] at a1; cases a1
theorem PJ.done (h : PJ base v l x ib ia db da fl vals w) (h14 : fl ia = true) : GOwn ic 1 2 w base (vals da) (l ++ [x]) := by
  rcases h.2 with ⟨_, a1, -⟩ | ⟨_, a1, -⟩ | ⟨_, _, a3⟩
  · rw [h14] at a1; cases a1
  · rw [h14] at a1; cases a1
  · exact a3
theorem PJ.slice (h : PJ base v l x ib ia db da fl vals w) (h14 : fl ia = true) : ∃ a n c, vals da = .slice a n c := by
  obtain ⟨a, c, e⟩ := GOwn.len kindI64.len (h.done h14) rfl
  exact ⟨_, _, _, e⟩
end
/-- A region that appends to a row in slot 7: move first, assign last (operation 17). -/
structure QJ (base : Nat) (v : Value) (l : List Int) (x : Int) (fl : Nat → Bool) (vals : Nat → Value) (w : World) : Prop where
  pj : PJ base v l x 15 16 52 53 fl vals w
  a0 : fl 16 = true → fl 0 = true
  a1 : fl 17 = true → fl 16 = true
  v0 : fl 17 = false → vals 7 = v
  v1 : fl 17 = true → vals 7 = vals 53
section
variable {base : Nat} {v : Value} {l : List Int} {x : Int} {fl : Nat → Bool} {vals : Nat → Value} {w w' : World}
theorem QJ.first (h : QJ base v l x fl vals w) (h0 : fl 0 = false) : vals 7 = v := h.v0 (by
  cases h17 : fl 17 with
  | false => rfl
  | true => have := h.a0 (h.a1 h17); rw [h0] at this; cases this)
theorem QJ.s {i d : Nat} {y : Value} (h : QJ base v l x fl vals w) (hi : i < 15 := by decide) (h7 : d ≠ 7 := by decide) (h3 : d ≠ 52 := by decide) (h4 : d ≠ 53 := by decide) : QJ base v l x (uF i fl) (uV (some d) y vals) w := by
  have e16 : uF i fl 16 = fl 16 := by simp only [uF, show ¬ 16 = i by omega, decide_false, Bool.false_or]
  have e17 : uF i fl 17 = fl 17 := by simp only [uF, show ¬ 17 = i by omega, decide_false, Bool.false_or]
  have e7 : uV (some d) y vals 7 = vals 7 := by simp [uV, h7]
  have e53 : uV (some d) y vals 53 = vals 53 := by simp [uV, h4]
  exact ⟨h.pj.s (Below.refl _ _) (by omega) (by omega) (by simp [h3]) (by simp [h4]), fun hf => by rw [e16] at hf; simp [uF, h.a0 hf], fun hf => by rw [e17] at hf; rw [e16]; exact h.a1 hf, fun hf => by rw [e17] at hf; rw [e7]; exact h.v0 hf, fun hf => by rw [e17] at hf; rw [e7, e53]; exact h.v1 hf⟩
theorem QJ.not17 (h : QJ base v l x fl vals w) (h16 : fl 16 = false) : fl 17 = false := by
  cases h17 : fl 17 with
  | false => rfl
  | true => have := h.a1 h17; rw [h16] at this; cases this
theorem QJ.build (h : QJ base v l x fl vals w) (h0 : fl 15 = false) : QJ base v l x (uF 15 fl) (uV (some 52) (.slice (some ⟨w.heap.size, 0, none⟩) 1 1) vals) (w.alloc (.cells #[.int .i64 x] 2)) := by
  have e16 : uF 15 fl 16 = fl 16 := by simp [uF]
  have e17 : uF 15 fl 17 = fl 17 := by simp [uF]
  exact ⟨h.pj.build h0, fun hf => by rw [e16] at hf; simp [uF, h.a0 hf], fun hf => by rw [e17] at hf; rw [e16]; exact h.a1 hf, fun hf => by rw [e17] at hf; simpa [uV] using h.v0 hf, fun hf => by rw [e17] at hf; simpa [uV] using h.v1 hf⟩
theorem QJ.app (h : QJ base v l x fl vals w) (hl : l.length ≤ 1000) (h0 : fl 0 = true) (h13 : fl 15 = true) (h14 : fl 16 = false) :
    ∃ v' W', (∀ ty, (Builtin.append_ #[27, 27] ty #[v, vals 52]).run Tryd.prog w = .ok v' W') ∧ QJ base v l x (uF 16 fl) (uV (some 53) v' vals) W' ∧ Chg (fun j => v.ownBlock = some j) w W' := by
  obtain ⟨v', W', h1, h2, h3, -⟩ := h.pj.app hl h13 h14
  have e17 := h.not17 h14
  refine ⟨v', W', h1, ⟨h2, fun _ => by simp [uF, h0], fun _ => by simp [uF], fun _ => by simpa [uV] using h.v0 e17, fun hf => ?_⟩, Chg.ofRow h3⟩
  have : fl 17 = true := by simpa [uF] using hf
  rw [e17] at this
  cases this
theorem QJ.assign (h : QJ base v l x fl vals w) (h16 : fl 16 = true) : QJ base v l x (uF 17 fl) (uV (some 7) (vals 53) vals) w := by
  refine ⟨h.pj.s (Below.refl _ _), fun hf => ?_, fun _ => by simp [uF, h16], fun hf => by simp [uF] at hf, fun _ => by simp [uV]⟩
  have : fl 16 = true := by simpa [uF] using hf
  simp [uF, h.a0 this]
end
/-- A region that appends to a row in the third cell of a box, and stores it there (operation 16). -/
structure UJ (b base : Nat) (v0 v1 v : Value) (l : List Int) (x : Int) (T : TypeId) (fl : Nat → Bool) (vals : Nat → Value) (w : World) : Prop where
  pj : PJ base v l x 13 14 84 85 fl vals w
  box : w.heap[b]? = some (.cells #[v0, v1, bif fl 16 then vals 85 else v] T (0, 0))
  a0 : fl 14 = true → fl 1 = true
  a1 : fl 16 = true → fl 14 = true
section
variable {b base : Nat} {v0 v1 v : Value} {l : List Int} {x : Int} {T : TypeId} {fl : Nat → Bool} {vals : Nat → Value} {w w' : World}
theorem UJ.not16 (h : UJ b base v0 v1 v l x T fl vals w) (h14 : fl 14 = false) : fl 16 = false := by
  cases h17 : fl 16 with
  | false => rfl
  | true => have := h.a1 h17; rw [h14] at this; cases this
theorem UJ.first (h : UJ b base v0 v1 v l x T fl vals w) (h0 : fl 1 = false) : w.heap[b]? = some (.cells #[v0, v1, v] T (0, 0)) := by
  have e14 : fl 14 = false := by
    cases h17 : fl 14 with
    | false => rfl
    | true => have := h.a0 h17; rw [h0] at this; cases this
  have h1 := h.box
  rw [h.not16 e14] at h1
  exact h1
theorem UJ.s {i d : Nat} {y : Value} (h : UJ b base v0 v1 v l x T fl vals w) (h1 : 13 ≠ i := by decide) (h2 : 14 ≠ i := by decide) (h5 : 16 ≠ i := by decide) (h3 : d ≠ 84 := by decide) (h4 : d ≠ 85 := by decide) : UJ b base v0 v1 v l x T (uF i fl) (uV (some d) y vals) w := by
  have e14 : uF i fl 14 = fl 14 := by simp [uF, h2]
  have e16 : uF i fl 16 = fl 16 := by simp [uF, h5]
  have e85 : uV (some d) y vals 85 = vals 85 := by simp [uV, h4]
  exact ⟨h.pj.s (Below.refl _ _) h1 h2 (by simp [h3]) (by simp [h4]), by rw [e16, e85]; exact h.box, fun hf => by rw [e14] at hf; simp [uF, h.a0 hf], fun hf => by rw [e16] at hf; rw [e14]; exact h.a1 hf⟩
theorem UJ.build (h : UJ b base v0 v1 v l x T fl vals w) (h0 : fl 13 = false) : UJ b base v0 v1 v l x T (uF 13 fl) (uV (some 84) (.slice (some ⟨w.heap.size, 0, none⟩) 1 1) vals) (w.alloc (.cells #[.int .i64 x] 2)) := by
  have e14 : uF 13 fl 14 = fl 14 := by simp [uF]
  have e16 : uF 13 fl 16 = fl 16 := by simp [uF]
  have e85 : uV (some 84) (.slice (some ⟨w.heap.size, 0, none⟩) 1 1) vals 85 = vals 85 := by simp [uV]
  exact ⟨h.pj.build h0, by rw [e16, e85]; exact box_grows h.box (bl_alloc (Below.refl _ _) _), fun hf => by rw [e14] at hf; simp [uF, h.a0 hf], fun hf => by rw [e16] at hf; rw [e14]; exact h.a1 hf⟩
theorem UJ.app (h : UJ b base v0 v1 v l x T fl vals w) (hl : l.length ≤ 1000) (h0 : fl 1 = true) (h13 : fl 13 = true) (h14 : fl 14 = false) (hT : T ≠ 2) :
    ∃ v' W', (∀ ty, (Builtin.append_ #[27, 27] ty #[v, vals 84]).run Tryd.prog w = .ok v' W') ∧ UJ b base v0 v1 v l x T (uF 14 fl) (uV (some 85) v' vals) W' ∧ Chg (fun j => j = b ∨ v.ownBlock = some j) w W' := by
  obtain ⟨v', W', h1, h2, h3, h4⟩ := h.pj.app hl h13 h14
  have e16 := h.not16 h14
  have hb := h.box
  rw [e16] at hb
  refine ⟨v', W', h1, ⟨h2, ?_, fun _ => by simp [uF, h0], fun _ => by simp [uF]⟩, (Chg.ofRow h3).mono fun j _ hj => .inr hj⟩
  have e : uF 14 fl 16 = false := by simp [uF, e16]
  rw [e]
  exact box_grows_own hb h3 h4 hT
theorem UJ.store {u : Value} (h : UJ b base v0 v1 v l x T fl vals w) (h14 : fl 14 = true) (h16 : fl 16 = false) (hb : b < base) : w.heap[b]? = some (.cells #[v0, v1, v] T (0, 0)) ∧ UJ b base v0 v1 v l x T (uF 16 fl) (uV none u vals) (w.setCell ⟨b, 2, none⟩ (vals 85)) ∧ Chg (fun j => j = b ∨ v.ownBlock = some j) w (w.setCell ⟨b, 2, none⟩ (vals 85)) := by
  have hc : Chg (fun j => j = b) w (w.setCell ⟨b, 2, none⟩ (vals 85)) := Chg.setCell (S := fun j => j = b) (Chg.refl _ _) _ (.inr rfl)
  have h1 := h.box
  rw [h16] at h1
  have e85 : uV none u vals 85 = vals 85 := by simp [uV]
  refine ⟨h1, ⟨h.pj.chg hc (fun j hj => by rw [hj]; exact hb) h14 (by simp [uF]) (by simp [uF]) e85, ?_, fun hf => ?_, fun _ => by simp [uF, h14]⟩, hc.mono fun j _ hj => .inl hj⟩
  · have e : uF 16 fl 16 = true := by simp [uF]
    rw [e, e85]
    exact box_setj (j := 2) h1
  · have : fl 14 = true := by simpa [uF] using hf
    simp [uF, h.a0 this]
end
end Go.Proofs.YthdcmchjlpkkaaaDoor.Tr
