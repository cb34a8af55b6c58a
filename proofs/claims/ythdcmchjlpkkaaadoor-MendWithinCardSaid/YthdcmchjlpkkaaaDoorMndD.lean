/- What a node reads: the closure's range, each reading appended. -/
import Derived.Test.YthdcmchjlpkkaaaDoorMndC
import Derived.Test.YthdcmchjlpkkaaaDoorFlagI
namespace Go.Proofs.YthdcmchjlpkkaaaDoor.Tr
open Go.RowKit Go.Sort
set_option maxHeartbeats 4000000
set_option maxRecDepth 100000
theorem kindI64 : RowKind ic 1 27 2 (.int .i64 0) 8 :=
  ⟨fun _ => rfl, fun a u hu => by simp at hu; subst hu; rfl, Tryd.underlying27, Tryd.infoI64, rfl, by decide, by decide⟩
theorem GSrc.of {w : World} {a : Addr} {x : Int} (h : w.cell? a = some (.int .i64 x)) : GSrc ic w (.slice (some a) 1 1) [x] := by
  refine .inr ⟨a, 1, rfl, fun j y hj => ?_⟩
  cases j with
  | zero =>
    simp at hj
    subst hj
    rw [show a.add 0 = a by cases a; rfl]
    exact h
  | succ j => simp at hj
theorem grows_chg {S : Nat → Prop} {w a b : World} (hg : Grows w a) (hc : Chg S a b) (h : ∀ j, S j → w.heap.size ≤ j) : Grows w b :=
  ((Chg.ofGrows hg).trans hc).toGrows fun j hj e => by have := h j e; omega
/-- The blocks that a round changes. -/
abbrev RS (p1 : Nat) (v : Value) (j : Nat) : Prop := v.ownBlock = some j ∨ j = p1
/-- How far a round has come. -/
def RJ (p1 base : Nat) (v : Value) (l : List Int) (x : Int) (T : TypeId) (fl : Nat → Bool) (vals : Nat → Value) (w : World) : Prop :=
  base ≤ w.heap.size ∧
  ((fl 13 = false ∧ fl 14 = false ∧ fl 15 = false ∧ w.heap[p1]? = some (.cells #[v] T (0, 0)) ∧ GOwn ic 1 2 w base v l) ∨
  (fl 13 = true ∧ fl 14 = false ∧ fl 15 = false ∧ w.heap[p1]? = some (.cells #[v] T (0, 0)) ∧ GOwn ic 1 2 w base v l ∧ ∃ g, vals 24 = .slice (some g) 1 1 ∧ w.cell? g = some (.int .i64 x)) ∨
  (fl 0 = true ∧ fl 13 = true ∧ fl 14 = true ∧ fl 15 = false ∧ w.heap[p1]? = some (.cells #[v] T (0, 0)) ∧ GOwn ic 1 2 w base (vals 25) (l ++ [x])) ∨
  (fl 0 = true ∧ fl 13 = true ∧ fl 14 = true ∧ fl 15 = true ∧ w.heap[p1]? = some (.cells #[vals 25] T (0, 0)) ∧ GOwn ic 1 2 w base (vals 25) (l ++ [x])))
abbrev uF (i : Nat) (fl : Nat → Bool) : Nat → Bool := fun j => decide (j = i) || fl j
abbrev uV (d : Option Nat) (x : Value) (vals : Nat → Value) : Nat → Value := fun z => if d = some z then x else vals z
section
variable {p1 base : Nat} {v : Value} {l : List Int} {x : Int} {T : TypeId} {fl : Nat → Bool} {vals : Nat → Value} {w w' : World}
theorem RJ.s {i d : Nat} {y : Value} (h : RJ p1 base v l x T fl vals w) (hg : Grows w w') (hi : i < 13) (h1 : d ≠ 24 := by decide) (h2 : d ≠ 25 := by decide) : RJ p1 base v l x T (uF i fl) (uV (some d) y vals) w' := by
  refine ⟨Nat.le_trans h.1 hg.size, ?_⟩
  have e13 : uF i fl 13 = fl 13 := by simp only [uF, show ¬ 13 = i by omega, decide_false, Bool.false_or]
  have e14 : uF i fl 14 = fl 14 := by simp only [uF, show ¬ 14 = i by omega, decide_false, Bool.false_or]
  have e15 : uF i fl 15 = fl 15 := by simp only [uF, show ¬ 15 = i by omega, decide_false, Bool.false_or]
  have e24 : uV (some d) y vals 24 = vals 24 := by simp [uV, h1]
  have e25 : uV (some d) y vals 25 = vals 25 := by simp [uV, h2]
  have e0 : fl 0 = true → uF i fl 0 = true := fun h => by simp [uF, h]
  rw [e13, e14, e15, e24, e25]
  rcases h.2 with ⟨a1, a2, a3, a4, a5⟩ | ⟨a1, a2, a3, a4, a5, g, a6, a7⟩ | ⟨a0, a1, a2, a3, a4, a5⟩ | ⟨a0, a1, a2, a3, a4, a5⟩
  · exact .inl ⟨a1, a2, a3, box_grows a4 hg, own_grows a5 hg⟩
  · exact .inr (.inl ⟨a1, a2, a3, box_grows a4 hg, own_grows a5 hg, g, a6, box_cell_grows a7 hg⟩)
  · exact .inr (.inr (.inl ⟨e0 a0, a1, a2, a3, box_grows a4 hg, own_grows a5 hg⟩))
  · exact .inr (.inr (.inr ⟨e0 a0, a1, a2, a3, box_grows a4 hg, own_grows a5 hg⟩))
theorem RJ.first (h : RJ p1 base v l x T fl vals w) (h0 : fl 0 = false) : w.heap[p1]? = some (.cells #[v] T (0, 0)) := by
  rcases h.2 with ⟨a1, a2, a3, a4, a5⟩ | ⟨a1, a2, a3, a4, a5, -⟩ | ⟨a0, -⟩ | ⟨a0, -⟩
  · exact a4
  · exact a4
  · rw [h0] at a0; cases a0
  · rw [h0] at a0; cases a0
theorem RJ.build (h : RJ p1 base v l x T fl vals w) (h0 : fl 13 = false) : RJ p1 base v l x T (uF 13 fl) (uV (some 24) (.slice (some ⟨w.heap.size, 0, none⟩) 1 1) vals) (w.alloc (.cells #[.int .i64 x] 2)) := by
  have hg : Grows w (w.alloc (.cells #[.int .i64 x] 2)) := bl_alloc (Below.refl _ _) _
  refine ⟨Nat.le_trans h.1 hg.size, ?_⟩
  rcases h.2 with ⟨a1, a2, a3, a4, a5⟩ | ⟨a1, -⟩ | ⟨_, a1, -⟩ | ⟨_, a1, -⟩
  · exact .inr (.inl ⟨by simp [uF], by simp [uF, a2], by simp [uF, a3], box_grows a4 hg, own_grows a5 hg, ⟨w.heap.size, 0, none⟩, by simp [uV], (cell_in (heap_alloc_new w _) 0 rfl).1⟩)
  · rw [h0] at a1; cases a1
  · rw [h0] at a1; cases a1
  · rw [h0] at a1; cases a1
theorem RJ.app (h : RJ p1 base v l x T fl vals w) (hl : l.length ≤ 1000) (h0 : fl 0 = true) (h13 : fl 13 = true) (h14 : fl 14 = false) (hT : T ≠ 2) :
    ∃ v' W', (∀ ty, (Builtin.append_ #[27, 27] ty #[v, vals 24]).run Tryd.prog w = .ok v' W') ∧ RJ p1 base v l x T (uF 14 fl) (uV (some 25) v' vals) W' ∧ Chg (RS p1 v) w W' := by
  rcases h.2 with ⟨a1, -⟩ | ⟨a1, a2, a3, a4, a5, g, a6, a7⟩ | ⟨_, _, a1, -⟩ | ⟨_, _, a1, -⟩
  · rw [h13] at a1; cases a1
  · obtain ⟨v', W', h1, h2, h3⟩ := gapp_run kindI64 a5 (GSrc.of a7) (by simp; omega) h.1
    rw [← a6] at h1
    refine ⟨v', W', h1, ⟨Nat.le_trans h.1 h3.size, .inr (.inr (.inl ⟨by simp [uF, h0], by simp [uF, a1], by simp [uF], by simp [uF, a3], box_grows_own a4 h3 a5 hT, by simpa [uV] using h2⟩))⟩, (Chg.ofRow h3).mono fun j _ hj => .inl hj⟩
  · rw [h14] at a1; cases a1
  · rw [h14] at a1; cases a1
theorem RJ.slice (h : RJ p1 base v l x T fl vals w) (h14 : fl 14 = true) : ∃ a n c, vals 25 = .slice a n c := by
  rcases h.2 with ⟨_, a1, -⟩ | ⟨_, a1, -⟩ | ⟨_, _, _, _, _, a5⟩ | ⟨_, _, _, _, _, a5⟩
  · rw [h14] at a1; cases a1
  · rw [h14] at a1; cases a1
  · obtain ⟨a, c, e⟩ := GOwn.len kindI64.len a5 rfl
    exact ⟨_, _, _, e⟩
  · obtain ⟨a, c, e⟩ := GOwn.len kindI64.len a5 rfl
    exact ⟨_, _, _, e⟩
theorem RJ.store {u : Value} (h : RJ p1 base v l x T fl vals w) (h14 : fl 14 = true) (h15 : fl 15 = false) (hp : p1 < base) : w.heap[p1]? = some (.cells #[v] T (0, 0)) ∧ RJ p1 base v l x T (uF 15 fl) (uV none u vals) (w.setCell ⟨p1, 0, none⟩ (vals 25)) ∧ Chg (RS p1 v) w (w.setCell ⟨p1, 0, none⟩ (vals 25)) := by
  have hc : Chg (fun j => j = p1) w (w.setCell ⟨p1, 0, none⟩ (vals 25)) := Chg.setCell (S := fun j => j = p1) (Chg.refl _ _) _ (.inr rfl)
  rcases h.2 with ⟨_, a1, -⟩ | ⟨_, a1, -⟩ | ⟨a0, a1, a2, a3, a4, a5⟩ | ⟨_, _, _, a1, -⟩
  · rw [h14] at a1; cases a1
  · rw [h14] at a1; cases a1
  · refine ⟨a4, ⟨Nat.le_trans h.1 hc.size, .inr (.inr (.inr ⟨by simp [uF, a0], by simp [uF, a1], by simp [uF, a2], by simp [uF], ?_, ?_⟩))⟩, hc.mono fun j _ hj => .inr hj⟩
    · have := box_setj (j := 0) (v := vals 25) a4
      simpa [uV] using this
    · have := hc.own a5 (fun j hj e => by have := (a5.lt j hj).1; omega)
      have e : uV none u vals 25 = vals 25 := by simp [uV]
      rw [e]
      exact this
  · rw [h15] at a1; cases a1
theorem RJ.done (h : RJ p1 base v l x T fl vals w) (h15 : fl 15 = true) : w.heap[p1]? = some (.cells #[vals 25] T (0, 0)) ∧ GOwn ic 1 2 w base (vals 25) (l ++ [x]) := by
  rcases h.2 with ⟨_, _, a1, -⟩ | ⟨_, _, a1, -⟩ | ⟨_, _, _, a1, -⟩ | ⟨_, _, _, _, a4, a5⟩
  · rw [h15] at a1; cases a1
  · rw [h15] at a1; cases a1
  · rw [h15] at a1; cases a1
  · exact ⟨a4, a5⟩
/-- What holds no cells stays; so does block c. -/
theorem stay_rs {W W' : World} {n c : Nat} {u : Value} (hc : Chg (RS p1 v) W W') (ho : GOwn ic 1 2 W base v l) (hp : W.heap[p1]? = some (.cells #[u] T (0, 0))) (hcb : c < base) (hcp : c ≠ p1) (hcW : c < W.heap.size) : Stay n c W W' := by
  refine ⟨fun j o _ hoc hj => ?_, hc.block c hcW (fun hs => ?_)⟩
  · rw [hc.block j (box_lt hj) (fun hs => ?_)]
    · exact hj
    · rcases hs with hs | rfl
      · obtain ⟨cur, hcur⟩ := gown_ty ho hs
        rw [hj] at hcur
        injection hcur with hcur
        rw [hcur] at hoc
        cases hoc
      · rw [hj] at hp
        injection hp with hp
        rw [hp] at hoc
        cases hoc
  · rcases hs with hs | hs
    · have := (ho.lt c hs).1; omega
    · exact hcp hs
end
end Go.Proofs.YthdcmchjlpkkaaaDoor.Tr
