/- One call, of a roll and of the document's notes (RollPlays). -/
import Derived.Test.YtgjieoljfcfacaaRollS
namespace Go.Proofs.Ytgjieoljfcfacaa
open Go.RowKit Go.Sort Go.Maps
set_option maxHeartbeats 4000000
set_option maxRecDepth 100000
abbrev TRA : TypeId := 32
theorem five_of {q : Int} (h : 0 ≤ q ∧ q ≤ 255) : q.tmod 5 = 0 ∨ q.tmod 5 = 1 ∨ q.tmod 5 = 2 ∨ q.tmod 5 = 3 ∨ q.tmod 5 = 4 := by
  rw [Int.tmod_eq_emod_of_nonneg h.1]
  omega
theorem grownBy_of {w w' : World} {r : Option Nat} (h : Grows w w') : w.grownBy w' r := ⟨h.os, h.tape, h.output, h.size, fun k hk _ => h.block k hk⟩
/-- A box is no map. -/
theorem box_map {w w' : World} {P : Program} {kt : TypeId} {R : Value → Option (DataW Unit × List MemPlace)} {p m n : Nat} {cs : Array Value} {T : TypeId} {D : DataW Unit} (hp : w.heap[p]? = some (.cells cs T (0, 0))) (hm : w.ownsMap P kt R m n D) (hg : w.grownBy w' (some m)) : w'.heap[p]? = some (.cells cs T (0, 0)) := by
  rw [hg.block p (box_lt hp) (fun e => ?_)]
  · exact hp
  · obtain ⟨es, clock, hb, _⟩ := hm
    injection e with e
    rw [e, hb] at hp
    cases hp
theorem own_map {α : Type} {f : α → List Value} {k base : Nat} {E : TypeId} {v : Value} {l : List α} {w w' : World} {P : Program} {kt : TypeId} {R : Value → Option (DataW Unit × List MemPlace)} {m n : Nat} {D : DataW Unit} (ho : GOwn f k E w base v l) (hm : w.ownsMap P kt R m n D) (hg : w.grownBy w' (some m)) : GOwn f k E w' base v l :=
  (Chg.ofRow hg).own ho fun j hj e => by
    obtain ⟨cur, hc⟩ := gown_ty ho hj
    obtain ⟨es, clock, hb, _⟩ := hm
    injection e with e
    rw [e, hc] at hb
    cases hb
/-- The roll, the notes, and the boxes of one call. -/
structure OS (w W : World) (B b m c M : Nat) (D : DataW Unit) (v : Value) (l : NL) (q no f : Int) : Prop where
  roll : RollAt W b m D M
  own : NOwn W B v l
  h0 : W.heap[c]? = some (.cells #[v, .int .i64 (M : Int)] TRD (0, 0))
  h1 : W.heap[c + 1]? = some (.cells #[.int .u8 q, .int .i64 no, .int .i64 f] TRA (0, 0))
  h2 : W.heap[c + 1 + 1]? = some (.cells #[.slice none 0 0, .int .i64 0] TRD (0, 0))
  g : w.grownBy W (some m)
  bc : b < c
  mc : m < c
section
variable {w W W' : World} {B b m c M : Nat} {D D' : DataW Unit} {v : Value} {l : NL} {q no f : Int}
theorem OS.next (h : OS w W B b m c M D v l q no f) (hg : W.grownBy W' (some m)) (hr : RollAt W' b m D' M) : OS w W' B b m c M D' v l q no f :=
  ⟨hr, own_map h.own h.roll.own hg, box_map h.h0 h.roll.own hg, box_map h.h1 h.roll.own hg, box_map h.h2 h.roll.own hg, grown_trans h.g hg, h.bc, h.mc⟩
theorem OS.grows (h : OS w W B b m c M D v l q no f) (hg : Grows W W') : OS w W' B b m c M D v l q no f := h.next (grownBy_of hg) (h.roll.grows hg)
theorem OS.cells (h : OS w W B b m c M D v l q no f) : (W.cell? ⟨c, 0, none⟩ = some v ∧ W.cell? ⟨c, 1, none⟩ = some (.int .i64 (M : Int)) ∧ c < W.heap.size) ∧
    (W.cell? ⟨c + 1, 0, none⟩ = some (.int .u8 q) ∧ W.cell? ⟨c + 1, 1, none⟩ = some (.int .i64 no) ∧ W.cell? ⟨c + 1, 2, none⟩ = some (.int .i64 f) ∧ c + 1 < W.heap.size) ∧
    (W.cell? ⟨c + 1 + 1, 0, none⟩ = some (.slice none 0 0) ∧ W.frozen? ⟨c + 1 + 1, 0, none⟩ = false ∧ W.cell? ⟨c + 1 + 1, 1, none⟩ = some (.int .i64 0) ∧ W.frozen? ⟨c + 1 + 1, 1, none⟩ = false ∧ c + 1 + 1 < W.heap.size) :=
  ⟨⟨(cell_in h.h0 0 rfl).1, (cell_in h.h0 1 rfl).1, box_lt h.h0⟩, ⟨(cell_in h.h1 0 rfl).1, (cell_in h.h1 1 rfl).1, (cell_in h.h1 2 rfl).1, box_lt h.h1⟩, (cell_in h.h2 0 rfl).1, (cell_in h.h2 0 rfl).2, (cell_in h.h2 1 rfl).1, (cell_in h.h2 1 rfl).2, box_lt h.h2⟩
/-- A world that differs in the map, in the result's box and in new blocks alone keeps the other boxes. -/
theorem OS.stay {p : Nat} {cs : Array Value} {T : TypeId} (h : OS w W B b m c M D v l q no f) (hp : W.heap[p]? = some (.cells cs T (0, 0))) (hpc : p ≠ c + 1 + 1) (hg : Chg (fun j => j = m ∨ j = c + 1 + 1) W W') : W'.heap[p]? = some (.cells cs T (0, 0)) := by
  refine box_chg hp hg ?_
  rintro (e | e)
  · obtain ⟨es, clock, hb, _⟩ := h.roll.own
    rw [e, hb] at hp
    cases hp
  · exact hpc e
theorem chg_of {c : Nat} (hg : W.grownBy W' (some m)) : Chg (fun j => j = m ∨ j = c) W W' := ⟨hg.os, hg.tape, hg.output, hg.size, fun k hk hs => hg.block k hk fun e => hs (.inl (by injection e))⟩
/-- What one call leaves. -/
def OneTo (w : World) (B b m M : Nat) (l : NL) (e : Ending) (w' : World) : Prop :=
  ∃ D' a n c l', e = .returned (.tuple #[nval (.slice a n c) M, .bool true]) ∧ RollAt w' b m D' M ∧ RollR D' l' ∧ NOwn w' B (.slice a n c) l' ∧ l'.length ≤ l.length + 1 ∧ w.grownBy w' (some m)
/-- The result's box is set. -/
theorem OS.fin {v' : Value} {l' : NL} (ec : w.heap.size = c) (h : OS w W B b m c M D v l q no f) (ho : NOwn W B v' l') :
    ∃ Wf, (W.setCell ⟨c + 1 + 1, 0, none⟩ v').setCell ⟨c + 1 + 1, 1, none⟩ (.int .i64 (M : Int)) = Wf ∧ Hid (Wf.cell? ⟨c + 1 + 1, 0, none⟩ = some v' ∧ Wf.cell? ⟨c + 1 + 1, 1, none⟩ = some (.int .i64 (M : Int)) ∧ RollAt Wf b m D M ∧ NOwn Wf B v' l' ∧ w.grownBy Wf (some m)) := by
  obtain ⟨h4, hc⟩ := box2_set (u0 := v') (u1 := .int .i64 (M : Int)) h.h2
  have hgs : W.grownBy ((W.setCell ⟨c + 1 + 1, 0, none⟩ v').setCell ⟨c + 1 + 1, 1, none⟩ (.int .i64 (M : Int))) (some (c + 1 + 1)) := ⟨hc.os, hc.tape, hc.output, hc.size, fun k hk hne => hc.block k hk fun e => hne (by rw [e])⟩
  refine ⟨_, rfl, ?_⟩
  show _ ∧ _ ∧ _ ∧ _ ∧ _
  refine ⟨(cell_in h4 0 rfl).1, (cell_in h4 1 rfl).1, h.roll.kept hgs (fun e => ?_) (fun e => ?_), hc.own ho (fun k hk e => ?_), ⟨hgs.os.trans h.g.os, hgs.tape.trans h.g.tape, hgs.output.trans h.g.output, Nat.le_trans h.g.size hgs.size, fun k hk hne => ?_⟩⟩
  · have := h.bc; injection e with e; omega
  · have := h.mc; injection e with e; omega
  · obtain ⟨cur, hcur⟩ := gown_ty ho hk
    rw [e, h.h2] at hcur
    injection hcur with hcur
    injection hcur with _ hcur
    exact absurd hcur (by decide)
  · rw [hgs.block k (Nat.lt_of_lt_of_le hk h.g.size) (fun e => by injection e with e; omega), h.g.block k hk hne]
end
theorem three_new (w : World) (A B C : Obj) : (((w.alloc A).alloc B).alloc C).heap[w.heap.size]? = some A ∧ (((w.alloc A).alloc B).alloc C).heap[w.heap.size + 1]? = some B ∧ (((w.alloc A).alloc B).alloc C).heap[w.heap.size + 1 + 1]? = some C := by
  refine ⟨old_at _ (old_at _ (new_at _ rfl)), old_at _ (new_at _ (by simp)), new_at _ (by simp)⟩
end Go.Proofs.Ytgjieoljfcfacaa
