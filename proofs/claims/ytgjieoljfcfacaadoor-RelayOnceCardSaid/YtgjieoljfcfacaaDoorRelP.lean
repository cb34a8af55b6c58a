/- RelP: texts laid one behind the other. -/
import Derived.Test.YtgjieoljfcfacaaDoorRelT
import Derived.Test.YtgjieoljfcfacaaDoorStep
import Derived.Test.YtgjieoljfcfacaaDoorMisc
import Derived.Test.YtgjieoljfcfacaaDoorRows2
import Derived.Laws.BytesArg
import Derived.ArgAppend
import Derived.Lib.LazyBuf
/- Packets as values: twelve cells. -/
namespace Go.Proofs.YtgjieoljfcfacaaDoor
open Go.RowKit Go.Sort
set_option maxHeartbeats 1000000
set_option maxRecDepth 100000
/-- A packet: its kind, key and numbers, and where its body lies. -/
structure PW where
  kd : Int
  k : KW
  hp : Int
  no : Int
  dt : Int
  ix : Int
  tt : Int
  st : Int
  vl : Int
  ba : Option Addr
  bl : Nat
  bc : Nat
abbrev TPK : TypeId := 32
abbrev PW.body (x : PW) : Value := .slice x.ba x.bl x.bc
abbrev PW.cells (x : PW) : Array Value := #[.int .i64 x.kd, .int .i64 x.k.t, .int .i64 x.k.f, .int .u32 x.k.s, .int .i64 x.hp, .int .i64 x.no, .int .i64 x.dt, .int .i64 x.ix, .int .i64 x.tt, .int .i64 x.st, .int .i64 x.vl, x.body]
abbrev PW.val (x : PW) : Value := .agg x.cells
/-- The packet of nothing. -/
abbrev pz : PW := ⟨0, ⟨0, 0, 0⟩, 0, 0, 0, 0, 0, 0, 0, none, 0, 0⟩
abbrev PZ : Value := pz.val
theorem Tryd.infoPk : (Tryd.prog.info? 32).map (fun i => (i.zero, i.size)) = some (some PZ, 12) := by kernel_rfl
/-- The cells of a box that holds a packet. -/
def PAt (w : World) (b : Nat) (x : PW) : Prop :=
  w.cell? ⟨b, 0, none⟩ = some (.int .i64 x.kd) ∧ w.cell? ⟨b, 1, none⟩ = some (.int .i64 x.k.t) ∧ w.cell? ⟨b, 2, none⟩ = some (.int .i64 x.k.f) ∧ w.cell? ⟨b, 3, none⟩ = some (.int .u32 x.k.s) ∧ w.cell? ⟨b, 4, none⟩ = some (.int .i64 x.hp) ∧ w.cell? ⟨b, 5, none⟩ = some (.int .i64 x.no) ∧
    w.cell? ⟨b, 6, none⟩ = some (.int .i64 x.dt) ∧ w.cell? ⟨b, 7, none⟩ = some (.int .i64 x.ix) ∧ w.cell? ⟨b, 8, none⟩ = some (.int .i64 x.tt) ∧ w.cell? ⟨b, 9, none⟩ = some (.int .i64 x.st) ∧ w.cell? ⟨b, 10, none⟩ = some (.int .i64 x.vl) ∧ w.cell? ⟨b, 11, none⟩ = some x.body ∧ b < w.heap.size
theorem pat_of {w : World} {b : Nat} {x : PW} {T : TypeId} (h : w.heap[b]? = some (.cells x.cells T (0, 0))) : PAt w b x :=
  ⟨(cell_in h 0 rfl).1, (cell_in h 1 rfl).1, (cell_in h 2 rfl).1, (cell_in h 3 rfl).1, (cell_in h 4 rfl).1, (cell_in h 5 rfl).1, (cell_in h 6 rfl).1, (cell_in h 7 rfl).1, (cell_in h 8 rfl).1, (cell_in h 9 rfl).1, (cell_in h 10 rfl).1, (cell_in h 11 rfl).1, box_lt h⟩
/-- .. none of which is frozen. -/
def PFree (w : World) (b : Nat) : Prop :=
  w.frozen? ⟨b, 0, none⟩ = false ∧ w.frozen? ⟨b, 1, none⟩ = false ∧ w.frozen? ⟨b, 2, none⟩ = false ∧ w.frozen? ⟨b, 3, none⟩ = false ∧ w.frozen? ⟨b, 4, none⟩ = false ∧ w.frozen? ⟨b, 5, none⟩ = false ∧ w.frozen? ⟨b, 6, none⟩ = false ∧ w.frozen? ⟨b, 7, none⟩ = false ∧ w.frozen? ⟨b, 8, none⟩ = false ∧ w.frozen? ⟨b, 9, none⟩ = false ∧ w.frozen? ⟨b, 10, none⟩ = false ∧ w.frozen? ⟨b, 11, none⟩ = false
theorem pfree_of {w : World} {b : Nat} {x : PW} {T : TypeId} (h : w.heap[b]? = some (.cells x.cells T (0, 0))) : PFree w b :=
  ⟨(cell_in h 0 rfl).2, (cell_in h 1 rfl).2, (cell_in h 2 rfl).2, (cell_in h 3 rfl).2, (cell_in h 4 rfl).2, (cell_in h 5 rfl).2, (cell_in h 6 rfl).2, (cell_in h 7 rfl).2, (cell_in h 8 rfl).2, (cell_in h 9 rfl).2, (cell_in h 10 rfl).2, (cell_in h 11 rfl).2⟩
/-- The world with a packet stored. -/
abbrev st12 (w : World) (b : Nat) (x : PW) : World :=
  (((((((((((w.setCell ⟨b, 0, none⟩ (.int .i64 x.kd)).setCell ⟨b, 1, none⟩ (.int .i64 x.k.t)).setCell ⟨b, 2, none⟩ (.int .i64 x.k.f)).setCell ⟨b, 3, none⟩ (.int .u32 x.k.s)).setCell ⟨b, 4, none⟩ (.int .i64 x.hp)).setCell ⟨b, 5, none⟩ (.int .i64 x.no)).setCell ⟨b, 6, none⟩ (.int .i64 x.dt)).setCell ⟨b, 7, none⟩ (.int .i64 x.ix)).setCell ⟨b, 8, none⟩ (.int .i64 x.tt)).setCell ⟨b, 9, none⟩ (.int .i64 x.st)).setCell ⟨b, 10, none⟩ (.int .i64 x.vl)).setCell ⟨b, 11, none⟩ x.body
theorem st12_box {w : World} {b : Nat} {x y : PW} {T : TypeId} (h : w.heap[b]? = some (.cells y.cells T (0, 0))) : (st12 w b x).heap[b]? = some (.cells x.cells T (0, 0)) := by
  have h0 : (w.setCell ⟨b, 0, none⟩ (.int .i64 x.kd)).heap[b]? = some (.cells #[.int .i64 x.kd, .int .i64 y.k.t, .int .i64 y.k.f, .int .u32 y.k.s, .int .i64 y.hp, .int .i64 y.no, .int .i64 y.dt, .int .i64 y.ix, .int .i64 y.tt, .int .i64 y.st, .int .i64 y.vl, y.body] T (0, 0)) := box_setj (j := 0) h
  have h1 : ((w.setCell ⟨b, 0, none⟩ (.int .i64 x.kd)).setCell ⟨b, 1, none⟩ (.int .i64 x.k.t)).heap[b]? = some (.cells #[.int .i64 x.kd, .int .i64 x.k.t, .int .i64 y.k.f, .int .u32 y.k.s, .int .i64 y.hp, .int .i64 y.no, .int .i64 y.dt, .int .i64 y.ix, .int .i64 y.tt, .int .i64 y.st, .int .i64 y.vl, y.body] T (0, 0)) := box_setj (j := 1) h0
  have h2 : (((w.setCell ⟨b, 0, none⟩ (.int .i64 x.kd)).setCell ⟨b, 1, none⟩ (.int .i64 x.k.t)).setCell ⟨b, 2, none⟩ (.int .i64 x.k.f)).heap[b]? = some (.cells #[.int .i64 x.kd, .int .i64 x.k.t, .int .i64 x.k.f, .int .u32 y.k.s, .int .i64 y.hp, .int .i64 y.no, .int .i64 y.dt, .int .i64 y.ix, .int .i64 y.tt, .int .i64 y.st, .int .i64 y.vl, y.body] T (0, 0)) := box_setj (j := 2) h1
  have h3 : ((((w.setCell ⟨b, 0, none⟩ (.int .i64 x.kd)).setCell ⟨b, 1, none⟩ (.int .i64 x.k.t)).setCell ⟨b, 2, none⟩ (.int .i64 x.k.f)).setCell ⟨b, 3, none⟩ (.int .u32 x.k.s)).heap[b]? = some (.cells #[.int .i64 x.kd, .int .i64 x.k.t, .int .i64 x.k.f, .int .u32 x.k.s, .int .i64 y.hp, .int .i64 y.no, .int .i64 y.dt, .int .i64 y.ix, .int .i64 y.tt, .int .i64 y.st, .int .i64 y.vl, y.body] T (0, 0)) := box_setj (j := 3) h2
  have h4 : (((((w.setCell ⟨b, 0, none⟩ (.int .i64 x.kd)).setCell ⟨b, 1, none⟩ (.int .i64 x.k.t)).setCell ⟨b, 2, none⟩ (.int .i64 x.k.f)).setCell ⟨b, 3, none⟩ (.int .u32 x.k.s)).setCell ⟨b, 4, none⟩ (.int .i64 x.hp)).heap[b]? = some (.cells #[.int .i64 x.kd, .int .i64 x.k.t, .int .i64 x.k.f, .int .u32 x.k.s, .int .i64 x.hp, .int .i64 y.no, .int .i64 y.dt, .int .i64 y.ix, .int .i64 y.tt, .int .i64 y.st, .int .i64 y.vl, y.body] T (0, 0)) := box_setj (j := 4) h3
  have h5 : ((((((w.setCell ⟨b, 0, none⟩ (.int .i64 x.kd)).setCell ⟨b, 1, none⟩ (.int .i64 x.k.t)).setCell ⟨b, 2, none⟩ (.int .i64 x.k.f)).setCell ⟨b, 3, none⟩ (.int .u32 x.k.s)).setCell ⟨b, 4, none⟩ (.int .i64 x.hp)).setCell ⟨b, 5, none⟩ (.int .i64 x.no)).heap[b]? = some (.cells #[.int .i64 x.kd, .int .i64 x.k.t, .int .i64 x.k.f, .int .u32 x.k.s, .int .i64 x.hp, .int .i64 x.no, .int .i64 y.dt, .int .i64 y.ix, .int .i64 y.tt, .int .i64 y.st, .int .i64 y.vl, y.body] T (0, 0)) := box_setj (j := 5) h4
  have h6 : (((((((w.setCell ⟨b, 0, none⟩ (.int .i64 x.kd)).setCell ⟨b, 1, none⟩ (.int .i64 x.k.t)).setCell ⟨b, 2, none⟩ (.int .i64 x.k.f)).setCell ⟨b, 3, none⟩ (.int .u32 x.k.s)).setCell ⟨b, 4, none⟩ (.int .i64 x.hp)).setCell ⟨b, 5, none⟩ (.int .i64 x.no)).setCell ⟨b, 6, none⟩ (.int .i64 x.dt)).heap[b]? = some (.cells #[.int .i64 x.kd, .int .i64 x.k.t, .int .i64 x.k.f, .int .u32 x.k.s, .int .i64 x.hp, .int .i64 x.no, .int .i64 x.dt, .int .i64 y.ix, .int .i64 y.tt, .int .i64 y.st, .int .i64 y.vl, y.body] T (0, 0)) := box_setj (j := 6) h5
  have h7 : ((((((((w.setCell ⟨b, 0, none⟩ (.int .i64 x.kd)).setCell ⟨b, 1, none⟩ (.int .i64 x.k.t)).setCell ⟨b, 2, none⟩ (.int .i64 x.k.f)).setCell ⟨b, 3, none⟩ (.int .u32 x.k.s)).setCell ⟨b, 4, none⟩ (.int .i64 x.hp)).setCell ⟨b, 5, none⟩ (.int .i64 x.no)).setCell ⟨b, 6, none⟩ (.int .i64 x.dt)).setCell ⟨b, 7, none⟩ (.int .i64 x.ix)).heap[b]? = some (.cells #[.int .i64 x.kd, .int .i64 x.k.t, .int .i64 x.k.f, .int .u32 x.k.s, .int .i64 x.hp, .int .i64 x.no, .int .i64 x.dt, .int .i64 x.ix, .int .i64 y.tt, .int .i64 y.st, .int .i64 y.vl, y.body] T (0, 0)) := box_setj (j := 7) h6
  have h8 : (((((((((w.setCell ⟨b, 0, none⟩ (.int .i64 x.kd)).setCell ⟨b, 1, none⟩ (.int .i64 x.k.t)).setCell ⟨b, 2, none⟩ (.int .i64 x.k.f)).setCell ⟨b, 3, none⟩ (.int .u32 x.k.s)).setCell ⟨b, 4, none⟩ (.int .i64 x.hp)).setCell ⟨b, 5, none⟩ (.int .i64 x.no)).setCell ⟨b, 6, none⟩ (.int .i64 x.dt)).setCell ⟨b, 7, none⟩ (.int .i64 x.ix)).setCell ⟨b, 8, none⟩ (.int .i64 x.tt)).heap[b]? = some (.cells #[.int .i64 x.kd, .int .i64 x.k.t, .int .i64 x.k.f, .int .u32 x.k.s, .int .i64 x.hp, .int .i64 x.no, .int .i64 x.dt, .int .i64 x.ix, .int .i64 x.tt, .int .i64 y.st, .int .i64 y.vl, y.body] T (0, 0)) := box_setj (j := 8) h7
  have h9 : ((((((((((w.setCell ⟨b, 0, none⟩ (.int .i64 x.kd)).setCell ⟨b, 1, none⟩ (.int .i64 x.k.t)).setCell ⟨b, 2, none⟩ (.int .i64 x.k.f)).setCell ⟨b, 3, none⟩ (.int .u32 x.k.s)).setCell ⟨b, 4, none⟩ (.int .i64 x.hp)).setCell ⟨b, 5, none⟩ (.int .i64 x.no)).setCell ⟨b, 6, none⟩ (.int .i64 x.dt)).setCell ⟨b, 7, none⟩ (.int .i64 x.ix)).setCell ⟨b, 8, none⟩ (.int .i64 x.tt)).setCell ⟨b, 9, none⟩ (.int .i64 x.st)).heap[b]? = some (.cells #[.int .i64 x.kd, .int .i64 x.k.t, .int .i64 x.k.f, .int .u32 x.k.s, .int .i64 x.hp, .int .i64 x.no, .int .i64 x.dt, .int .i64 x.ix, .int .i64 x.tt, .int .i64 x.st, .int .i64 y.vl, y.body] T (0, 0)) := box_setj (j := 9) h8
  have h10 : (((((((((((w.setCell ⟨b, 0, none⟩ (.int .i64 x.kd)).setCell ⟨b, 1, none⟩ (.int .i64 x.k.t)).setCell ⟨b, 2, none⟩ (.int .i64 x.k.f)).setCell ⟨b, 3, none⟩ (.int .u32 x.k.s)).setCell ⟨b, 4, none⟩ (.int .i64 x.hp)).setCell ⟨b, 5, none⟩ (.int .i64 x.no)).setCell ⟨b, 6, none⟩ (.int .i64 x.dt)).setCell ⟨b, 7, none⟩ (.int .i64 x.ix)).setCell ⟨b, 8, none⟩ (.int .i64 x.tt)).setCell ⟨b, 9, none⟩ (.int .i64 x.st)).setCell ⟨b, 10, none⟩ (.int .i64 x.vl)).heap[b]? = some (.cells #[.int .i64 x.kd, .int .i64 x.k.t, .int .i64 x.k.f, .int .u32 x.k.s, .int .i64 x.hp, .int .i64 x.no, .int .i64 x.dt, .int .i64 x.ix, .int .i64 x.tt, .int .i64 x.st, .int .i64 x.vl, y.body] T (0, 0)) := box_setj (j := 10) h9
  have h11 : ((((((((((((w.setCell ⟨b, 0, none⟩ (.int .i64 x.kd)).setCell ⟨b, 1, none⟩ (.int .i64 x.k.t)).setCell ⟨b, 2, none⟩ (.int .i64 x.k.f)).setCell ⟨b, 3, none⟩ (.int .u32 x.k.s)).setCell ⟨b, 4, none⟩ (.int .i64 x.hp)).setCell ⟨b, 5, none⟩ (.int .i64 x.no)).setCell ⟨b, 6, none⟩ (.int .i64 x.dt)).setCell ⟨b, 7, none⟩ (.int .i64 x.ix)).setCell ⟨b, 8, none⟩ (.int .i64 x.tt)).setCell ⟨b, 9, none⟩ (.int .i64 x.st)).setCell ⟨b, 10, none⟩ (.int .i64 x.vl)).setCell ⟨b, 11, none⟩ (x.body)).heap[b]? = some (.cells #[.int .i64 x.kd, .int .i64 x.k.t, .int .i64 x.k.f, .int .u32 x.k.s, .int .i64 x.hp, .int .i64 x.no, .int .i64 x.dt, .int .i64 x.ix, .int .i64 x.tt, .int .i64 x.st, .int .i64 x.vl, x.body] T (0, 0)) := box_setj (j := 11) h10
  exact h11
theorem st12_chg (w : World) (b : Nat) (x : PW) : Chg (fun j => j = b) w (st12 w b x) := by
  unfold st12
  repeat (refine Chg.setCell ?_ _ (.inr rfl))
  exact Chg.refl _ _
theorem grows_of_chg {W w w' : World} (hg : Grows W w) {S : Nat → Prop} (hc : Chg S w w') (hS : ∀ j, S j → W.heap.size ≤ j) : Grows W w' := Below.trans hg (hc.toBelow hg.size (fun j hj hs => by have := hS j hs; omega))
/-- Rows that hold packets. -/
def PRows (m : List (KW × Value)) : Prop := ∀ p ∈ m, ∃ x : PW, p.2 = x.val
theorem getK_pw {m : List (KW × Value)} (h : PRows m) (k : KW) : ∃ y : PW, (getK m k).getD PZ = y.val := by
  induction m with
  | nil => exact ⟨pz, rfl⟩
  | cons p m ih =>
    rw [getK_cons]
    split
    · obtain ⟨x, hx⟩ := h p (by simp)
      exact ⟨x, hx⟩
    · exact ih fun q hq => h q (by simp [hq])
end Go.Proofs.YtgjieoljfcfacaaDoor
/- Bytes: what a slice of them holds; slices.Clone of one. -/
namespace Go.Proofs.YtgjieoljfcfacaaDoor
open Go.RowKit Go.Sort
set_option maxHeartbeats 1000000
set_option maxRecDepth 100000
theorem Tryd.infoU8 : (Tryd.prog.info? 5).map (fun i => (i.zero, i.size, i.bytes)) = some (some (.int .u8 0), 1, 1) := by kernel_rfl

abbrev bsv (b : List Int) : List Value := b.map (Value.int .u8)
theorem bsv_one (b : List Int) : ∀ u ∈ bsv b, u.oneCell' = true := by
  intro u hu
  simp at hu
  obtain ⟨x, _, rfl⟩ := hu
  rfl
/-- The slice of bytes holds b. -/
def BHas (w : World) (ba : Option Addr) (bl bc : Nat) (b : List Int) : Prop := b.length = bl ∧ (bl = 0 ∨ ∃ g o, ba = some ⟨g, o, none⟩ ∧ bl ≤ bc ∧ g < w.heap.size ∧ ∀ i, (h : i < b.length) → w.cell? ⟨g, o + i, none⟩ = some (.int .u8 b[i]))
theorem BHas.grows {w w' : World} {ba : Option Addr} {bl bc : Nat} {b : List Int} (h : BHas w ba bl bc b) (hg : Grows w w') : BHas w' ba bl bc b := by
  refine ⟨h.1, ?_⟩
  rcases h.2 with h | ⟨g, o, h1, h0, h2, h3⟩
  · exact .inl h
  · exact .inr ⟨g, o, h1, h0, Nat.lt_of_lt_of_le h2 hg.size, fun i hi => (hg.cell (p := ⟨g, o + i, none⟩) h2).trans (h3 i hi)⟩
/-- .. in a row of its own. -/
abbrev BRow (w : World) (base : Nat) (v : Value) (b : List Int) : Prop := w.ownsRow base 5 1 v b.length (bsv b)
theorem brow_form {w : World} {base : Nat} {v : Value} {b : List Int} (h : BRow w base v b) : ∃ ba bl bc, v = .slice ba bl bc ∧ BHas w ba bl bc b := by
  rcases h.2 with ⟨h1, h2⟩ | ⟨g, cap, cur, hv, hb, hg, h4, _⟩
  · exact ⟨none, 0, 0, h1, h2, .inl rfl⟩
  · refine ⟨_, _, _, hv, rfl, .inr ⟨g, 0, rfl, h4, (Array.getElem?_eq_some_iff.1 hg).1, fun i hi => ?_⟩⟩
    subst hv
    rw [Nat.zero_add, h.cellAt i (by omega)]
    simp [hi]
theorem conv_bytes {w : World} {ba : Option Addr} {bl bc : Nat} {b : List Int} (h : BHas w ba bl bc b) : (convert 30 9 (.slice ba bl bc)).run Tryd.prog w = .ok (.string (strOfNums b)) w := by
  obtain ⟨h1, h2⟩ := h
  rcases h2 with h2 | ⟨g, o, rfl, -, hg, hc⟩
  · obtain rfl : b = [] := List.eq_nil_of_length_eq_zero (by omega)
    subst h2
    cases ba with
    | none => exact run_convert_bytes_nil w _ _ Tryd.underlying30 Tryd.underlying5 0 bc _ Tryd.underlying9
    | some a =>
      rw [run_convert_bytes_string w _ _ _ _ 0 bc Tryd.underlying30 Tryd.underlying5 Tryd.underlying9]
      have := run_bytesToString (P := Tryd.prog) w a 0 bc [] (by simp [loadCells, Sem.run_pure, loadCellsFrom])
      rw [this]
      rfl
  · exact run_convert_bytes_arg w _ _ Tryd.underlying30 Tryd.underlying5 g o bl bc b h1 (fun i hi => by
      rw [hc i (by omega), List.getD_eq_getElem?_getD, List.getElem?_eq_getElem (by omega)]
      rfl) _ Tryd.underlying9

/-- Are two bodies the same? -/
def sameB (b c : List Int) : Bool := (strOfNums b).toList == (strOfNums c).toList
theorem sameB_refl (b : List Int) : sameB b b = true := by unfold sameB; simp
end Go.Proofs.YtgjieoljfcfacaaDoor
