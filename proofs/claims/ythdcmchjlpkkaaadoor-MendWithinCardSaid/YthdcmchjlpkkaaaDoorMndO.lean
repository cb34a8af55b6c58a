/- What comes in, opened: slices of numbers, slices of these, a turn, by how much readings are wrong; the table that the card ties. -/
import Derived.Test.YthdcmchjlpkkaaaDoorMndJ
import Derived.Test.YthdcmchjlpkkaaaDoorOpen
import Derived.Deep.Slices
import Derived.Test.YthdcmchjlpkkaaaDoorTie
import Derived.LaidMore
import Derived.LaidHandle
import Derived.Lib.LaidTab
import Derived.Handed
namespace Go.Proofs.YthdcmchjlpkkaaaDoor.Tr
open Go.ChangeShapes Go.WideShapes Go.ChangeAt Go.RowKit Go.Joins Go.Deep
set_option maxRecDepth 100000
section
variable {H : Type} {enc : TypeId × Value → H} {w : World} {base b0 : Nat} {spare : Nat → Bool} {held : Bool} {r : Reach} {v : Value} {d : DataW H} {p : List MemPlace}
theorem open_rows_c {α : Type} {T E : TypeId} {f : α → List Value} {k m1 : Nat} {cs : List Value} {y : DataW H × List MemPlace} {Pr : α → Prop} (hs : Tryd.prog.underlying T = some (.slice E)) (hC : Tryd.prog.cellsOf E = k + 1) (hf1 : ∀ a, (f a).length = k + 1)
    (hel : ∀ {m : Nat} {cs : List Value} {y : DataW H × List MemPlace}, DataW.trod enc Tryd.prog w base spare held m E cs = some y → ∃ x, cs = f x ∧ Pr x)
    (hf : DataW.trod enc Tryd.prog w base spare held m1 T cs = some y) : ∃ a n c l, cs = [.slice a n c] ∧ GRows f (k + 1) w (.slice a n c) l ∧ ∀ x ∈ l, Pr x := by
  rcases open_slice hs hf with ⟨hcs, _⟩ | ⟨a', len, cap, m, n, D, Pl, hcs, _, hl, hm, hmm, _, hi⟩
  · exact ⟨_, _, _, [], hcs, .inl ⟨rfl, _, _, rfl⟩, fun x hx => by simp at hx⟩
  · by_cases h0 : len = 0
    · subst h0
      exact ⟨_, _, _, [], hcs, .inl ⟨rfl, _, _, rfl⟩, fun x hx => by simp at hx⟩
    · have hlm : len ≤ m := by rw [hmm]; split <;> omega
      have key : ∀ i, i < len → ∃ x : α, (∀ j, j < k + 1 → w.cell? (a'.add (i * (k + 1) + j)) = (f x)[j]?) ∧ Pr x := by
        intro i hil
        obtain ⟨cs', hc, ht⟩ := hi i (by omega)
        rw [hC] at hc
        obtain ⟨_, hcl, hat⟩ := World.cells?_some hc
        obtain ⟨x, rfl, hb⟩ := hel ht
        refine ⟨x, fun j hj => ?_, hb⟩
        have := hat j (by omega)
        rw [Go.Deep.add_add] at this
        exact this
      have : Nonempty α := by obtain ⟨x, _⟩ := key 0 (by omega); exact ⟨x⟩
      have : Inhabited α := Classical.inhabited_of_nonempty this
      obtain ⟨F, hF⟩ := choose_lt key
      have h9 : ∃ u, w.cell? (a'.add (0 * (k + 1) + 0)) = some u := by
        have h8 := (hF 0 (by omega)).1 0 (by omega)
        rw [List.getElem?_eq_getElem (by rw [hf1]; omega)] at h8
        exact ⟨_, h8⟩
      obtain ⟨u, h9⟩ := h9
      obtain ⟨b, o, spot⟩ := a'
      have hsp : spot = none := by
        have := World.cell?_spot h9
        simpa [Addr.add] using this
      subst hsp
      refine ⟨_, _, _, (List.range len).map F, hcs, .inr ⟨b, o, cap, by simp, by simpa using hl, ?_, ?_⟩, ?_⟩
      · have := block_lt_of_cell h9
        rwa [addr_add] at this
      · intro i hil j hj
        have hil' : i < len := by simpa using hil
        have := (hF i hil').1 j hj
        simp only [List.getElem_map, List.getElem_range]
        rw [addr_add, ← Nat.add_assoc] at this
        exact this
      · intro x hx
        rw [List.mem_map] at hx
        obtain ⟨i, hi2, rfl⟩ := hx
        exact (hF i (List.mem_range.1 hi2)).2
theorem rows_ihas {w : World} {v : Value} {l : List Int} (h : GRows ic 1 w v l) : IHas w v l := by
  rcases h with h | ⟨g, o, cap, h1, h2, h3, h4⟩
  · exact .inl h
  · exact .inr ⟨g, o, cap, h1, h2, h3, fun i hi => by
      have := h4 i hi 0 (by decide)
      simpa using this⟩
theorem open_i64_c {m1 : Nat} {cs : List Value} {y : DataW H × List MemPlace} (hf : DataW.trod enc Tryd.prog w base spare held m1 27 cs = some y) : ∃ a n c l, cs = [.slice a n c] ∧ IHas w (.slice a n c) l := by
  obtain ⟨a, n, c, l, h1, h2, -⟩ := open_rows_c (f := ic) (k := 0) (Pr := fun _ => True) Tryd.underlying27 (by kernel_rfl) (fun _ => rfl) (fun {m cs y} ht => by
    obtain ⟨q, hk, _, hw⟩ := DataW.trod_int Tryd.underlying2 ht
    exact ⟨q, hk, trivial⟩) hf
  exact ⟨a, n, c, l, h1, rows_ihas h2⟩
theorem open_errs_c {m1 : Nat} {cs : List Value} {y : DataW H × List MemPlace} (hf : DataW.trod enc Tryd.prog w base spare held m1 31 cs = some y) : ∃ a n c E, cs = [.slice a n c] ∧ EHas w (.slice a n c) E := by
  obtain ⟨a, n, c, l, h1, h2, h3⟩ := open_rows_c (f := sv) (k := 0) (Pr := fun r => IHas w r.val r.l) Tryd.underlying31 (by kernel_rfl) (fun _ => rfl) (fun {m cs y} ht => by
    obtain ⟨a, n, c, l, h1, h2⟩ := open_i64_c ht
    exact ⟨⟨a, n, c, l⟩, h1, h2⟩) hf
  exact ⟨a, n, c, l, h1, h2, h3⟩
abbrev jv (x : Int) : List Value := [.int .i32 x]
def R32 (x : Int) : Prop := -2147483648 ≤ x ∧ x ≤ 2147483647
theorem wf_i32 {x : Int} (h : (Lit.int .i32 x).wf = true) : R32 x := by
  simp [Lit.wf, IntKind.min, IntKind.max, IntKind.signed, IntKind.bits] at h
  unfold R32
  omega
theorem open_i32_c {m1 : Nat} {cs : List Value} {y : DataW H × List MemPlace} (hf : DataW.trod enc Tryd.prog w base spare held m1 22 cs = some y) : ∃ a n c l, cs = [.slice a n c] ∧ GRows jv 1 w (.slice a n c) l ∧ ∀ x ∈ l, R32 x :=
  open_rows_c (f := jv) (k := 0) Tryd.underlying22 (by kernel_rfl) (fun _ => rfl) (fun {m cs y} ht => by
    obtain ⟨q, hk, _, hw⟩ := DataW.trod_int Tryd.underlying21 ht
    exact ⟨q, hk, wf_i32 hw⟩) hf
theorem open_errs32_c {m1 : Nat} {cs : List Value} {y : DataW H × List MemPlace} (hf : DataW.trod enc Tryd.prog w base spare held m1 24 cs = some y) : ∃ a n c E, cs = [.slice a n c] ∧ GRows sv 1 w (.slice a n c) E ∧ ∀ r ∈ E, GRows jv 1 w r.val r.l ∧ ∀ x ∈ r.l, R32 x :=
  open_rows_c (f := sv) (k := 0) Tryd.underlying24 (by kernel_rfl) (fun _ => rfl) (fun {m cs y} ht => by
    obtain ⟨a, n, c, l, h1, h2⟩ := open_i32_c ht
    exact ⟨⟨a, n, c, l⟩, h1, h2⟩) hf
theorem list3' {α : Type} {l : List α} (h : l.length = 3) : ∃ c0 c1 c2, l = [c0, c1, c2] := by
  match l, h with
  | [c0, c1, c2], _ => exact ⟨_, _, _, rfl⟩
theorem list4' {α : Type} {l : List α} (h : l.length = 4) : ∃ c0 c1 c2 c3, l = [c0, c1, c2, c3] := by
  match l, h with
  | [c0, c1, c2, c3], _ => exact ⟨_, _, _, _, rfl⟩
theorem wf_u64n {n : Int} (h : (Lit.int .u64 n).wf = true) : ∃ s : Nat, n = (s : Int) ∧ s < 18446744073709551616 := by
  simp [Lit.wf, IntKind.min, IntKind.max, IntKind.signed, IntKind.bits] at h
  exact ⟨n.toNat, by omega, by omega⟩
/-- A turn that came in. -/
theorem open_turn (hv : Value.okWide Tryd.prog w r b0 42 v) (h : DataW.Trod enc Tryd.prog w base spare held 42 v d p) : ∃ t : TN, v = .agg t.cells ∧ TNOk w t := by
  have hs := Tryd.underlying42
  obtain ⟨⟨cs⟩, rfl, hsz⟩ := okWide_struct hs hv
  obtain ⟨fuel, hf⟩ := h
  have hl : cs.length = 3 := (field_len hs hf).trans (by kernel_rfl)
  have hf : DataW.trod enc Tryd.prog w base spare held fuel 42 cs = some (d, p) := hf
  obtain ⟨z, g0, hw⟩ := field_int hs hf 0 0 rfl Tryd.underlying28 (by kernel_rfl)
  obtain ⟨m1, y1, hy⟩ := field_at hs hf 1 1 (tt := 31) rfl
  obtain ⟨m2, y2, hz⟩ := field_at hs hf 2 2 (tt := 27) rfl
  have hc1 : Tryd.prog.cellsOf 31 = 1 := by kernel_rfl
  have hc2 : Tryd.prog.cellsOf 27 = 1 := by kernel_rfl
  simp only [hc1] at hy
  simp only [hc2] at hz
  obtain ⟨a1, n1, c1, E, e1, h1⟩ := open_errs_c hy
  obtain ⟨a2, n2, c2, D, e2, h2⟩ := open_i64_c hz
  obtain ⟨s, rfl, hs2⟩ := wf_u64n hw
  obtain ⟨c0, c1', c2', rfl⟩ := list3' hl
  simp only [List.drop_succ_cons, List.drop_zero, List.take_succ_cons, List.take_zero, List.getElem?_cons_zero, Option.some.injEq, List.cons.injEq, and_true] at g0 e1 e2
  subst g0 e1 e2
  exact ⟨⟨s, a1, n1, c1, a2, n2, c2, E, D⟩, rfl, hs2, h1, h2⟩
/-- By how much readings and clocks are wrong. -/
structure WR where
  e : Int
  dd : Int
  ea : Option Addr
  en : Nat
  ec : Nat
  da : Option Addr
  dn : Nat
  dc : Nat
  E : List SL
  D : List Int
abbrev WR.cells (x : WR) : Array Value := #[.int .u16 x.e, .int .u16 x.dd, .slice x.ea x.en x.ec, .slice x.da x.dn x.dc]
def WROk (w : World) (x : WR) : Prop := (0 ≤ x.e ∧ x.e ≤ 65535) ∧ (0 ≤ x.dd ∧ x.dd ≤ 65535) ∧ (GRows sv 1 w (.slice x.ea x.en x.ec) x.E ∧ ∀ r ∈ x.E, GRows jv 1 w r.val r.l ∧ ∀ y ∈ r.l, R32 y) ∧ GRows jv 1 w (.slice x.da x.dn x.dc) x.D ∧ ∀ y ∈ x.D, R32 y
theorem open_wrong (hv : Value.okWide Tryd.prog w r b0 26 v) (h : DataW.Trod enc Tryd.prog w base spare held 26 v d p) : ∃ x : WR, v = .agg x.cells ∧ WROk w x := by
  have hs := Tryd.underlying26
  obtain ⟨⟨cs⟩, rfl, hsz⟩ := okWide_struct hs hv
  obtain ⟨fuel, hf⟩ := h
  have hl : cs.length = 4 := (field_len hs hf).trans (by kernel_rfl)
  have hf : DataW.trod enc Tryd.prog w base spare held fuel 26 cs = some (d, p) := hf
  obtain ⟨e, g0, hw0⟩ := field_int hs hf 0 0 rfl Tryd.underlying23 (by kernel_rfl)
  obtain ⟨dd, g1, hw1⟩ := field_int hs hf 1 1 rfl Tryd.underlying23 (by kernel_rfl)
  obtain ⟨m1, y1, hy⟩ := field_at hs hf 2 2 (tt := 24) rfl
  obtain ⟨m2, y2, hz⟩ := field_at hs hf 3 3 (tt := 22) rfl
  have hc1 : Tryd.prog.cellsOf 24 = 1 := by kernel_rfl
  have hc2 : Tryd.prog.cellsOf 22 = 1 := by kernel_rfl
  simp only [hc1] at hy
  simp only [hc2] at hz
  obtain ⟨a1, n1, c1, E, e1, h1⟩ := open_errs32_c hy
  obtain ⟨a2, n2, c2, D, e2, h2, h3⟩ := open_i32_c hz
  obtain ⟨c0, c1', c2', c3', rfl⟩ := list4' hl
  simp only [List.drop_succ_cons, List.drop_zero, List.take_succ_cons, List.take_zero, List.getElem?_cons_zero, List.getElem?_cons_succ, Option.some.injEq, List.cons.injEq, and_true] at g0 g1 e1 e2
  subst g0 g1 e1 e2
  exact ⟨⟨e, dd, a1, n1, c1, a2, n2, c2, E, D⟩, rfl, wf_u16 hw0, wf_u16 hw1, h1, h2, h3⟩
/-- A slice of numbers that came in. -/
theorem open_i64s (hv : Value.okWide Tryd.prog w r b0 27 v) (h : DataW.Trod enc Tryd.prog w base spare held 27 v d p) : ∃ l, IHas w v l := by
  obtain ⟨a, len, cap, rfl⟩ := okWide_slice Tryd.underlying27 hv
  obtain ⟨fuel, hf⟩ := h
  obtain ⟨a', n, c, l, h1, h2⟩ := open_i64_c hf
  simp [Value.cells] at h1
  obtain ⟨rfl, rfl, rfl⟩ := h1
  exact ⟨l, h2⟩
theorem open_i32s (hv : Value.okWide Tryd.prog w r b0 22 v) (h : DataW.Trod enc Tryd.prog w base spare held 22 v d p) : ∃ l, GRows jv 1 w v l ∧ ∀ x ∈ l, R32 x := by
  obtain ⟨a, len, cap, rfl⟩ := okWide_slice Tryd.underlying22 hv
  obtain ⟨fuel, hf⟩ := h
  obtain ⟨a', n, c, l, h1, h2⟩ := open_i32_c hf
  simp [Value.cells] at h1
  obtain ⟨rfl, rfl, rfl⟩ := h1
  exact ⟨l, h2⟩
end
theorem gTab : Tryd.prog.globalNamed "math/bits.deBruijn64tab" = some 0 := by kernel_rfl
theorem tTab : (Tryd.prog.globals[0]?).map (·.type) = some 67 := by kernel_rfl
theorem laid_of {W : World} (h : laidMetH Tryd.prog [("math/bits.deBruijn64tab", Rows.laid_math_bits_deBruijn64tab)] W) : Laid W := by
  rw [MakeChecks.laidMetH_plain _ _ _ (by kernel_rfl)] at h
  have hT := Lib.tabIs_of_head (k := .u8) (zs := Lib.deBruijn64tab.map fun (x : Nat) => (x : Int)) (rest := []) gTab tTab Tryd.underlying67 Tryd.underlying5 (by kernel_rfl) (by kernel_rfl) h
  have hc : ∀ i, i < 64 → W.cell? ⟨0, i, none⟩ = some (.int .u8 (Lib.deBruijn64tab.getD i 0 : Int)) := by
    intro i hi
    have := hT.cell gTab i (by simpa [Lib.deBruijn64tab] using hi)
    rw [this]
    simp [List.getD_eq_getElem?_getD, List.getElem?_eq_getElem (show i < Lib.deBruijn64tab.length by simpa [Lib.deBruijn64tab] using hi)]
  exact fun i hi => hc i (by simpa [Lib.deBruijn64tab] using hi)
/-- The door's own heap meets the condition. -/
theorem door_met (os : Os) (args : Array Value) : laidMetH Tryd.prog [("math/bits.deBruijn64tab", Rows.laid_math_bits_deBruijn64tab)] ((World.doorLaid Tryd.prog 400 os).forCall (fun _ _ => 0) ⟨#[], args, []⟩).memory :=
  laidMetH_of_parts3 (fuel := 8) (laidMet_of_run' 8 (by kernel_rfl) (by kernel_rfl)) (by kernel_rfl) (by kernel_rfl)
end Go.Proofs.YthdcmchjlpkkaaaDoor.Tr
