/- RelZ: texts laid one behind the other. -/
import Derived.Test.YtgjieoljfcfacaaDoorRelX
import Derived.ProofKit
import Derived.OpenShut
import Derived.ChangeOld
import Derived.Lib.SmallJoins
import Derived.Deep.Slices
import Derived.Test.YtgjieoljfcfacaaDoorTie
import Derived.LaidMore
import Derived.LaidHandle
import Derived.Lib.LaidTab
import Derived.Handed
/- Arguments opened: the fields of a struct, the elements of an array, of a value that came in. -/
namespace Go.Proofs.YtgjieoljfcfacaaDoor
open Go.ChangeShapes Go.WideShapes Go.ChangeAt Go.RowKit Go.Joins
set_option maxRecDepth 100000

theorem own : ownKnob Tryd.prog.godebug = none := by kernel_rfl
theorem laidOut : laidOutB Tryd.prog = true := by kernel_rfl

section
variable {H : Type} {enc : TypeId × Value → H} {P : Program} {w : World} {base : Nat} {spare : Nat → Bool} {held : Bool} {fuel : Nat} {t : TypeId} {cs : List Value} {x : DataW H × List MemPlace}

theorem field_at {fs : Array Field} (ht : P.underlying t = some (.struct fs)) (h : DataW.trod enc P w base spare held fuel t cs = some x) (i o : Nat) {tt : TypeId} (hf : (fs[i]?).map (fun f => (f.offset, f.type)) = some (o, tt)) :
    ∃ (m : Nat) (y : DataW H × List MemPlace), DataW.trod enc P w base spare held m tt ((cs.drop o).take (P.cellsOf tt)) = some y := by
  obtain ⟨f, hf', he⟩ := Option.map_eq_some_iff.1 hf
  simp only [Prod.mk.injEq] at he
  obtain ⟨rfl, rfl⟩ := he
  obtain ⟨xs, n, _, _, _, hl, hg⟩ := DataW.trod_struct ht h
  have hi : i < fs.size := (Array.getElem?_eq_some_iff.1 hf').1
  exact ⟨n, xs[i]'(by omega), by rw [hg i f hf']; exact List.getElem?_eq_getElem (by omega)⟩
theorem field_len {fs : Array Field} (ht : P.underlying t = some (.struct fs)) (h : DataW.trod enc P w base spare held fuel t cs = some x) : cs.length = P.cellsOf t := by
  obtain ⟨xs, n, _, _, hl, _⟩ := DataW.trod_struct ht h
  exact hl
theorem take_one {l : List Value} {i : Nat} {v : Value} (h : (l.drop i).take 1 = [v]) : l[i]? = some v := by
  have := congrArg (fun z => z[0]?) h
  simpa [List.getElem?_take, List.getElem?_drop] using this
theorem field_int {fs : Array Field} {k : IntKind} (ht : P.underlying t = some (.struct fs)) (h : DataW.trod enc P w base spare held fuel t cs = some x) (i o : Nat) {tt : TypeId} (hf : (fs[i]?).map (fun f => (f.offset, f.type)) = some (o, tt))
    (hk : P.underlying tt = some (.int k)) (h1 : P.cellsOf tt = 1) : ∃ n, cs[o]? = some (.int k n) ∧ (Lit.int k n).wf = true := by
  obtain ⟨m, y, hy⟩ := field_at ht h i o hf
  rw [h1] at hy
  obtain ⟨n, he, _, hw⟩ := DataW.trod_int hk hy
  exact ⟨n, take_one he, hw⟩
theorem field_slice {fs : Array Field} {e : TypeId} (ht : P.underlying t = some (.struct fs)) (h : DataW.trod enc P w base spare held fuel t cs = some x) (i o : Nat) {tt : TypeId} (hf : (fs[i]?).map (fun f => (f.offset, f.type)) = some (o, tt))
    (hk : P.underlying tt = some (.slice e)) (h1 : P.cellsOf tt = 1) : ∃ a l c, cs[o]? = some (.slice a l c) := by
  obtain ⟨m, y, hy⟩ := field_at ht h i o hf
  rw [h1] at hy
  obtain ⟨a, l, c, he⟩ := slice_form hk hy
  exact ⟨a, l, c, take_one he⟩
theorem elem_int {n : Nat} {e : TypeId} {k : IntKind} (ht : P.underlying t = some (.array n e)) (h : DataW.trod enc P w base spare held fuel t cs = some x) (i : Nat) (hi : i < n)
    (hk : P.underlying e = some (.int k)) (h1 : P.cellsOf e = 1) : ∃ m, cs[i]? = some (.int k m) ∧ (Lit.int k m).wf = true := by
  obtain ⟨xs, m, _, _, _, hl, hg⟩ := DataW.trod_array ht h
  have := hg i hi
  rw [h1, Nat.mul_one, List.getElem?_eq_getElem (by omega : i < xs.length)] at this
  obtain ⟨q, he, _, hw⟩ := DataW.trod_int hk this
  exact ⟨q, take_one he, hw⟩
theorem array_len {n : Nat} {e : TypeId} (ht : P.underlying t = some (.array n e)) (h : DataW.trod enc P w base spare held fuel t cs = some x) : cs.length = P.cellsOf t := by
  obtain ⟨xs, m, _, _, hl, _⟩ := DataW.trod_array ht h
  exact hl
theorem okWide_array {r : Reach} {b : Nat} {v : Value} {n : Nat} {e : TypeId} (ht : P.underlying t = some (.array n e)) (h : Value.okWide P w r b t v) : ∃ cs, v = .agg cs := by
  simp only [Value.okWide, ht] at h
  obtain ⟨cs, h1, _⟩ := h
  exact ⟨cs, h1⟩
end

theorem wf_u32 {x : Int} (h : (Lit.int .u32 x).wf = true) : 0 ≤ x ∧ x ≤ 4294967295 := by
  simp [Lit.wf, IntKind.min, IntKind.max, IntKind.signed, IntKind.bits] at h; omega
theorem wf_u16 {x : Int} (h : (Lit.int .u16 x).wf = true) : 0 ≤ x ∧ x ≤ 65535 := by
  simp [Lit.wf, IntKind.min, IntKind.max, IntKind.signed, IntKind.bits] at h; omega
theorem wf_u8 {x : Int} (h : (Lit.int .u8 x).wf = true) : 0 ≤ x ∧ x ≤ 255 := by
  simp [Lit.wf, IntKind.min, IntKind.max, IntKind.signed, IntKind.bits] at h; omega
theorem wf_i64 {x : Int} (h : (Lit.int .i64 x).wf = true) : -9223372036854775808 ≤ x ∧ x ≤ 9223372036854775807 := by
  simp [Lit.wf, IntKind.min, IntKind.max, IntKind.signed, IntKind.bits] at h; omega

theorem list2 {α : Type} {l : List α} (h : l.length = 2) : ∃ c0 c1, l = [c0, c1] := by
  match l, h with
  | [c0, c1], _ => exact ⟨_, _, rfl⟩
theorem list12 {α : Type} {l : List α} (h : l.length = 12) : ∃ c0 c1 c2 c3 c4 c5 c6 c7 c8 c9 c10 c11, l = [c0, c1, c2, c3, c4, c5, c6, c7, c8, c9, c10, c11] := by
  match l, h with
  | [c0, c1, c2, c3, c4, c5, c6, c7, c8, c9, c10, c11], _ => exact ⟨_, _, _, _, _, _, _, _, _, _, _, _, rfl⟩
theorem list15 {α : Type} {l : List α} (h : l.length = 15) : ∃ c0 c1 c2 c3 c4 c5 c6 c7 c8 c9 c10 c11 c12 c13 c14, l = [c0, c1, c2, c3, c4, c5, c6, c7, c8, c9, c10, c11, c12, c13, c14] := by
  match l, h with
  | [c0, c1, c2, c3, c4, c5, c6, c7, c8, c9, c10, c11, c12, c13, c14], _ => exact ⟨_, _, _, _, _, _, _, _, _, _, _, _, _, _, _, rfl⟩
end Go.Proofs.YtgjieoljfcfacaaDoor
/- A slice of keys that came in, opened. -/
namespace Go.Proofs.YtgjieoljfcfacaaDoor
open Go.ChangeShapes Go.WideShapes Go.ChangeAt Go.RowKit Go.Joins Go.Deep
set_option maxRecDepth 100000

instance : Inhabited KW := ⟨⟨0, 0, 0⟩⟩
section
variable {H : Type} {enc : TypeId × Value → H} {w : World} {base b0 : Nat} {spare : Nat → Bool} {held : Bool} {r : Reach} {v : Value} {d : DataW H} {p : List MemPlace}
theorem add_none (b o k : Nat) : (⟨b, o, none⟩ : Addr).add k = ⟨b, o + k, none⟩ := by
  unfold Addr.add
  split
  · rename_i h; subst h; rfl
  · rfl
theorem wf_u64 {x : Int} (h : (Lit.int .u64 x).wf = true) : 0 ≤ x ∧ x ≤ 18446744073709551615 := by
  simp [Lit.wf, IntKind.min, IntKind.max, IntKind.signed, IntKind.bits] at h; omega

theorem open_keys (hv : Value.okWide Tryd.prog w r b0 119 v) (h : DataW.Trod enc Tryd.prog w base spare held 119 v d p) : ∃ l, KHas w v l ∧ l.length ≤ 9223372036854775807 := by
  have hs := Tryd.underlying119
  have he := Tryd.underlying29
  have hC : Tryd.prog.cellsOf 29 = 3 := by kernel_rfl
  obtain ⟨a, len, cap, rfl⟩ := okWide_slice hs hv
  obtain ⟨fuel, hf⟩ := h
  rcases open_slice hs hf with ⟨hcs, _⟩ | ⟨a', len', cap', m, n, D, Pl, hcs, _, hl, hm, hmm, _, hi⟩
  · simp [Value.cells] at hcs
    obtain ⟨rfl, rfl, rfl⟩ := hcs
    exact ⟨[], .inl ⟨rfl, _, _, rfl⟩, by simp⟩
  · simp [Value.cells] at hcs
    obtain ⟨rfl, rfl, rfl⟩ := hcs
    by_cases h0 : len = 0
    · subst h0
      exact ⟨[], .inl ⟨rfl, _, _, rfl⟩, by simp⟩
    · have hlm : len ≤ m := by rw [hmm]; split <;> omega
      have key : ∀ i, i < len → ∃ x : KW, w.cell? (a'.add (i * 3)) = some (.int .i64 x.t) ∧ w.cell? (a'.add (i * 3 + 1)) = some (.int .i64 x.f) ∧ w.cell? (a'.add (i * 3 + 2)) = some (.int .u32 x.s) := by
        intro i hil
        obtain ⟨cs', hc, ht⟩ := hi i (by omega)
        rw [hC] at hc
        obtain ⟨_, hcl, hat⟩ := World.cells?_some hc
        obtain ⟨no, g0, w0⟩ := field_int he ht 0 0 rfl Tryd.underlying2 (by kernel_rfl)
        obtain ⟨tm, g1, w1⟩ := field_int he ht 1 1 rfl Tryd.underlying3 (by kernel_rfl)
        obtain ⟨s, g2, w2⟩ := field_int he ht 2 2 rfl Tryd.underlying27 (by kernel_rfl)
        have a0 := hat 0 (by omega)
        have a1 := hat 1 (by omega)
        have a2 := hat 2 (by omega)
        rw [g0] at a0; rw [g1] at a1; rw [g2] at a2
        refine ⟨⟨no, tm, s⟩, ?_, ?_, ?_⟩
        · rw [Go.Deep.add_add] at a0; exact a0
        · rw [Go.Deep.add_add] at a1; exact a1
        · rw [Go.Deep.add_add] at a2; exact a2
      obtain ⟨F, hF⟩ := choose_lt key
      obtain ⟨b, o, spot⟩ := a'
      have hsp : spot = none := by
        have := World.cell?_spot (hF 0 (by omega)).1
        simpa [Addr.add] using this
      subst hsp
      refine ⟨(List.range len).map F, .inr ⟨b, o, cap, by simp, by simpa using hl, ?_, ?_⟩, ?_⟩
      · have := (hF 0 (by omega)).1
        exact block_lt_of_cell (a := (⟨b, o, none⟩ : Addr).add (0 * 3)) this
      · intro i hil j hj
        have hil' : i < len := by simpa using hil
        obtain ⟨f0, f1, f2⟩ := hF i hil'
        simp only [List.getElem_map, List.getElem_range]
        rw [add_none] at f0 f1 f2
        rw [← Nat.add_assoc] at f1 f2
        match j, hj with
        | 0, _ => exact f0
        | 1, _ => exact f1
        | 2, _ => exact f2
      · simp only [List.length_map, List.length_range]
        unfold maxLen at hm
        omega
theorem list3 {α : Type} {l : List α} (h : l.length = 3) : ∃ c0 c1 c2, l = [c0, c1, c2] := by
  match l, h with
  | [c0, c1, c2], _ => exact ⟨_, _, _, rfl⟩
theorem open_key_cells {m : Nat} {cs : List Value} {y : DataW H × List MemPlace} (h : DataW.trod enc Tryd.prog w base spare held m 29 cs = some y) : ∃ x : KW, cs = [.int .i64 x.t, .int .i64 x.f, .int .u32 x.s] := by
  have hs := Tryd.underlying29
  have hl : cs.length = 3 := (field_len hs h).trans (by kernel_rfl)
  obtain ⟨t, k0, _⟩ := field_int hs h 0 0 rfl Tryd.underlying2 (by kernel_rfl)
  obtain ⟨f, k1, _⟩ := field_int hs h 1 1 rfl Tryd.underlying3 (by kernel_rfl)
  obtain ⟨s, k2, _⟩ := field_int hs h 2 2 rfl Tryd.underlying27 (by kernel_rfl)
  obtain ⟨c0, c1, c2, rfl⟩ := list3 hl
  simp only [List.getElem?_cons_zero, List.getElem?_cons_succ, Option.some.injEq] at k0 k1 k2
  subst k0 k1 k2
  exact ⟨⟨t, f, s⟩, rfl⟩
/-- One key that came in. -/
theorem open_key (hv : Value.okWide Tryd.prog w r b0 29 v) (h : DataW.Trod enc Tryd.prog w base spare held 29 v d p) : ∃ x : KW, v = x.val := by
  have hs := Tryd.underlying29
  obtain ⟨⟨cs⟩, rfl, hsz⟩ := okWide_struct hs hv
  obtain ⟨fuel, hf⟩ := h
  have hf : DataW.trod enc Tryd.prog w base spare held fuel 29 cs = some (d, p) := hf
  obtain ⟨x, rfl⟩ := open_key_cells hf
  exact ⟨x, rfl⟩
end
end Go.Proofs.YtgjieoljfcfacaaDoor
/- A slice of bytes that came in, opened. -/
namespace Go.Proofs.YtgjieoljfcfacaaDoor
open Go.ChangeShapes Go.WideShapes Go.ChangeAt Go.RowKit Go.Joins Go.Deep
set_option maxRecDepth 100000
section
variable {H : Type} {enc : TypeId × Value → H} {w : World} {base b0 : Nat} {spare : Nat → Bool} {held : Bool} {r : Reach} {v : Value} {d : DataW H} {p : List MemPlace}
theorem open_bytes_cells {m : Nat} {c : Value} {y : DataW H × List MemPlace} (h : DataW.trod enc Tryd.prog w base spare held m 30 [c] = some y) : ∃ ba bl bc b, c = .slice ba bl bc ∧ BHas w ba bl bc b ∧ (ba = none → bc = 0) := by
  have hs := Tryd.underlying30
  have he := Tryd.underlying5
  have hC : Tryd.prog.cellsOf 5 = 1 := by kernel_rfl
  rcases open_slice hs h with ⟨hcs, _⟩ | ⟨a', len, cap, m, n, D, Pl, hcs, _, hl, hm, hmm, _, hi⟩
  · cases hcs
    exact ⟨none, 0, 0, [], rfl, ⟨rfl, .inl rfl⟩, fun _ => rfl⟩
  · cases hcs
    by_cases h0 : len = 0
    · subst h0
      exact ⟨_, _, _, [], rfl, ⟨rfl, .inl rfl⟩, fun h => by cases h⟩
    · have hlm : len ≤ m := by rw [hmm]; split <;> omega
      have key : ∀ i, i < len → ∃ x : Int, w.cell? (a'.add i) = some (.int .u8 x) := by
        intro i hil
        obtain ⟨cs', hc, ht⟩ := hi i (by omega)
        rw [hC, Nat.mul_one] at hc
        obtain ⟨_, hcl, hat⟩ := World.cells?_some hc
        obtain ⟨q, hk, _, hw⟩ := DataW.trod_int he ht
        have a0 := hat 0 (by omega)
        rw [hk] at a0
        exact ⟨q, by simpa [Addr.add] using a0⟩
      obtain ⟨F, hF⟩ := choose_lt key
      obtain ⟨b, o, spot⟩ := a'
      have hsp : spot = none := by
        have := World.cell?_spot (hF 0 (by omega))
        simpa [Addr.add] using this
      subst hsp
      refine ⟨_, _, _, (List.range len).map F, rfl, ⟨by simp, .inr ⟨b, o, rfl, hl, ?_, ?_⟩⟩, fun h => by cases h⟩
      · have := hF 0 (by omega)
        exact block_lt_of_cell (a := (⟨b, o, none⟩ : Addr).add 0) this
      · intro i hil
        have hil' : i < len := by simpa using hil
        have := hF i hil'
        simp only [List.getElem_map, List.getElem_range]
        rwa [addr_add] at this

theorem open_bytes_arg (hv : Value.okWide Tryd.prog w r b0 30 v) (h : DataW.Trod enc Tryd.prog w base spare held 30 v d p) : ∃ ba bl bc b, v = .slice ba bl bc ∧ BHas w ba bl bc b ∧ (ba = none → bc = 0) := by
  obtain ⟨a, len, cap, rfl⟩ := okWide_slice Tryd.underlying30 hv
  obtain ⟨fuel, hf⟩ := h
  have hf : DataW.trod enc Tryd.prog w base spare held fuel 30 [.slice a len cap] = some (d, p) := hf
  exact open_bytes_cells hf
end
end Go.Proofs.YtgjieoljfcfacaaDoor
/- The calls that came in (TablePlays: a kind, a key, a row; SeenPlays: whether to expire, a key, a time), opened. -/
/- A slice of rows that came in, opened: rows of any shape. -/
namespace Go.Proofs.YtgjieoljfcfacaaDoor
open Go.ChangeShapes Go.WideShapes Go.ChangeAt Go.RowKit Go.Joins Go.Deep
set_option maxRecDepth 100000
/-- The slice v holds the rows l. -/
def GHas {α : Type} (f : α → List Value) (k : Nat) (w : World) (v : Value) (l : List α) : Prop := (l = [] ∧ ∃ a cap, v = .slice a 0 cap) ∨ ∃ g o cap, v = .slice (some ⟨g, o, none⟩) l.length cap ∧ l.length ≤ cap ∧ g < w.heap.size ∧ RAt f k w g o l
section
variable {α : Type} {f : α → List Value} {k : Nat}
theorem GHas.grows {w w' : World} {v : Value} {l : List α} (h : GHas f k w v l) (hg : Grows w w') : GHas f k w' v l := by
  rcases h with h | ⟨g, o, cap, h1, h2, h3, h4⟩
  · exact .inl h
  · exact .inr ⟨g, o, cap, h1, h2, Nat.lt_of_lt_of_le h3 hg.size, h4.grows hg h3⟩
theorem GHas.form {w : World} {v : Value} {l : List α} {n : Nat} (h : GHas f k w v l) (hn : l.length = n) (h0 : 0 < n) : ∃ g o cap, v = .slice (some ⟨g, o, none⟩) n cap ∧ n ≤ cap ∧ g < w.heap.size ∧ RAt f k w g o l := by
  subst hn
  rcases h with ⟨rfl, _⟩ | h
  · simp at h0
  · exact h
theorem GHas.len {w : World} {v : Value} {l : List α} {n : Nat} (h : GHas f k w v l) (hn : l.length = n) : ∃ a cap, v = .slice a n cap := by
  subst hn
  rcases h with ⟨rfl, a, cap, rfl⟩ | ⟨g, o, cap, h, _⟩
  · exact ⟨a, cap, rfl⟩
  · exact ⟨_, cap, h⟩
end
section
variable {H : Type} {enc : TypeId × Value → H} {w : World} {base b0 : Nat} {spare : Nat → Bool} {held : Bool} {r : Reach} {v : Value} {d : DataW H} {p : List MemPlace}
theorem open_rows {α : Type} {T E : TypeId} {f : α → List Value} {k : Nat} {Pr : α → Prop} (hs : Tryd.prog.underlying T = some (.slice E)) (hC : Tryd.prog.cellsOf E = k + 1) (hf1 : ∀ a, (f a).length = k + 1)
    (hel : ∀ {m : Nat} {cs : List Value} {y : DataW H × List MemPlace}, DataW.trod enc Tryd.prog w base spare held m E cs = some y → ∃ x, cs = f x ∧ Pr x)
    (hv : Value.okWide Tryd.prog w r b0 T v) (h : DataW.Trod enc Tryd.prog w base spare held T v d p) : ∃ l, GHas f (k + 1) w v l ∧ ∀ x ∈ l, Pr x := by
  obtain ⟨a, len, cap, rfl⟩ := okWide_slice hs hv
  obtain ⟨fuel, hf⟩ := h
  rcases open_slice hs hf with ⟨hcs, _⟩ | ⟨a', len', cap', m, n, D, Pl, hcs, _, hl, hm, hmm, _, hi⟩
  · simp [Value.cells] at hcs
    obtain ⟨rfl, rfl, rfl⟩ := hcs
    exact ⟨[], .inl ⟨rfl, _, _, rfl⟩, fun x hx => by simp at hx⟩
  · simp [Value.cells] at hcs
    obtain ⟨rfl, rfl, rfl⟩ := hcs
    by_cases h0 : len = 0
    · subst h0
      exact ⟨[], .inl ⟨rfl, _, _, rfl⟩, fun x hx => by simp at hx⟩
    · have hlm : len ≤ m := by rw [hmm]; split <;> omega
      have key : ∀ i, i < len → ∃ x : α, (∀ j, j < k + 1 → w.cell? (a'.add (i * (k + 1) + j)) = (f x)[j]?) ∧ Pr x := by
        intro i hil
        obtain ⟨cs', hc, ht⟩ := hi i (by omega)
        rw [hC] at hc
        obtain ⟨_, hcl, hat⟩ := World.cells?_some hc
        obtain ⟨x, rfl, hb⟩ := hel ht
        refine ⟨x, fun j hj => ?_, hb⟩
        have := hat j (by omega)
        rw [Go.Deep.add_add] at this
        exact this
      have : Nonempty α := by obtain ⟨x, _⟩ := key 0 (by omega); exact ⟨x⟩
      have : Inhabited α := Classical.inhabited_of_nonempty this
      obtain ⟨F, hF⟩ := choose_lt key
      have h9 : ∃ u, w.cell? (a'.add (0 * (k + 1) + 0)) = some u := by
        have h8 := (hF 0 (by omega)).1 0 (by omega)
        rw [List.getElem?_eq_getElem (by rw [hf1]; omega)] at h8
        exact ⟨_, h8⟩
      obtain ⟨u, h9⟩ := h9
      obtain ⟨b, o, spot⟩ := a'
      have hsp : spot = none := by
        have := World.cell?_spot h9
        simpa [Addr.add] using this
      subst hsp
      refine ⟨(List.range len).map F, .inr ⟨b, o, cap, by simp, by simpa using hl, ?_, ?_⟩, ?_⟩
      · have := block_lt_of_cell h9
        rwa [addr_add] at this
      · intro i hil j hj
        have hil' : i < len := by simpa using hil
        have := (hF i hil').1 j hj
        simp only [List.getElem_map, List.getElem_range]
        rw [addr_add, ← Nat.add_assoc] at this
        exact this
      · intro x hx
        rw [List.mem_map] at hx
        obtain ⟨i, hi2, rfl⟩ := hx
        exact (hF i (List.mem_range.1 hi2)).2
end
end Go.Proofs.YtgjieoljfcfacaaDoor
namespace Go.Proofs.YtgjieoljfcfacaaDoor
open Go.ChangeShapes Go.WideShapes Go.ChangeAt Go.RowKit Go.Joins Go.Deep
set_option maxRecDepth 100000
section
variable {H : Type} {enc : TypeId × Value → H} {w : World} {base b0 : Nat} {spare : Nat → Bool} {held : Bool} {r : Reach} {v : Value} {d : DataW H} {p : List MemPlace}
end
end Go.Proofs.YtgjieoljfcfacaaDoor
namespace Go.Proofs.YtgjieoljfcfacaaDoor
open Go.ChangeShapes Go.WideShapes Go.ChangeAt Go.RowKit Go.Joins Go.Deep
set_option maxRecDepth 100000
theorem list17 {α : Type} {l : List α} (h : l.length = 17) : ∃ c0 c1 c2 c3 c4 c5 c6 c7 c8 c9 c10 c11 c12 c13 c14 c15 c16, l = [c0, c1, c2, c3, c4, c5, c6, c7, c8, c9, c10, c11, c12, c13, c14, c15, c16] := by
  match l, h with
  | [c0, c1, c2, c3, c4, c5, c6, c7, c8, c9, c10, c11, c12, c13, c14, c15, c16], _ => exact ⟨_, _, _, _, _, _, _, _, _, _, _, _, _, _, _, _, _, rfl⟩
/-- A call: what says which, two numbers, the packet with its bytes, the near ones, a node. -/
structure RA where
  q : Int
  tol : Int
  now : Int
  x : PW
  b : List Int
  s : Nat
  f : Int
abbrev RA.cells (a : RA) : Array Value := actC a.q a.tol a.now a.x a.s a.f
/-- What is known of a call. -/
def RAOk (w : World) (a : RA) : Prop := (0 ≤ a.q ∧ a.q ≤ 255) ∧ a.s < 18446744073709551616 ∧ BHas w a.x.ba a.x.bl a.x.bc a.b
section
variable {H : Type} {enc : TypeId × Value → H} {w : World} {base b0 : Nat} {spare : Nat → Bool} {held : Bool} {r : Reach} {v : Value} {d : DataW H} {p : List MemPlace}
theorem wf_u64n {n : Int} (h : (Lit.int .u64 n).wf = true) : ∃ s : Nat, n = (s : Int) ∧ s < 18446744073709551616 := by
  simp [Lit.wf, IntKind.min, IntKind.max, IntKind.signed, IntKind.bits] at h
  exact ⟨n.toNat, by omega, by omega⟩
theorem open_packet_cells {m : Nat} {cs : List Value} {y : DataW H × List MemPlace} (h : DataW.trod enc Tryd.prog w base spare held m 32 cs = some y) : ∃ (x : PW) (b : List Int), cs = [.int .i64 x.kd, .int .i64 x.k.t, .int .i64 x.k.f, .int .u32 x.k.s, .int .i64 x.hp, .int .i64 x.no, .int .i64 x.dt, .int .i64 x.ix, .int .i64 x.tt, .int .i64 x.st, .int .i64 x.vl, x.body] ∧ BHas w x.ba x.bl x.bc b ∧ (x.ba = none → x.bc = 0) := by
  have hs := Tryd.underlying32
  have hl : cs.length = 12 := (field_len hs h).trans (by kernel_rfl)
  obtain ⟨m1, y1, hy⟩ := field_at hs h 1 1 (tt := 29) rfl
  have hc3 : Tryd.prog.cellsOf 29 = 3 := by kernel_rfl
  simp only [hc3] at hy
  obtain ⟨a0, g0, _⟩ := field_int hs h 0 0 rfl Tryd.underlying3 (by kernel_rfl)
  obtain ⟨a2, g2, _⟩ := field_int hs h 2 4 rfl Tryd.underlying3 (by kernel_rfl)
  obtain ⟨a3, g3, _⟩ := field_int hs h 3 5 rfl Tryd.underlying2 (by kernel_rfl)
  obtain ⟨a4, g4, _⟩ := field_int hs h 4 6 rfl Tryd.underlying3 (by kernel_rfl)
  obtain ⟨a5, g5, _⟩ := field_int hs h 5 7 rfl Tryd.underlying3 (by kernel_rfl)
  obtain ⟨a6, g6, _⟩ := field_int hs h 6 8 rfl Tryd.underlying3 (by kernel_rfl)
  obtain ⟨a7, g7, _⟩ := field_int hs h 7 9 rfl Tryd.underlying2 (by kernel_rfl)
  obtain ⟨a8, g8, _⟩ := field_int hs h 8 10 rfl Tryd.underlying2 (by kernel_rfl)
  obtain ⟨m2, y2, hb⟩ := field_at hs h 9 11 (tt := 30) rfl
  have hc1 : Tryd.prog.cellsOf 30 = 1 := by kernel_rfl
  simp only [hc1] at hb
  obtain ⟨x, hx⟩ := open_key_cells hy
  obtain ⟨c0, c1, c2, c3, c4, c5, c6, c7, c8, c9, c10, c11, rfl⟩ := list12 hl
  simp only [List.drop_succ_cons, List.drop_zero, List.take_succ_cons, List.take_zero, List.getElem?_cons_zero, List.getElem?_cons_succ, Option.some.injEq, List.cons.injEq, and_true] at g0 g2 g3 g4 g5 g6 g7 g8 hx hb
  obtain ⟨ba, bl, bc, b, rfl, hbh, hba⟩ := open_bytes_cells hb
  obtain ⟨rfl, rfl, rfl⟩ := hx
  subst g0 g2 g3 g4 g5 g6 g7 g8
  exact ⟨⟨a0, x, a2, a3, a4, a5, a6, a7, a8, ba, bl, bc⟩, b, rfl, hbh, hba⟩
theorem open_ract_cells {m : Nat} {cs : List Value} {y : DataW H × List MemPlace} (ht : DataW.trod enc Tryd.prog w base spare held m 54 cs = some y) : ∃ a : RA, cs = a.cells.toList ∧ RAOk w a := by
  have hs := Tryd.underlying54
  have hl : cs.length = 17 := (field_len hs ht).trans (by kernel_rfl)
  obtain ⟨m1, y1, hy⟩ := field_at hs ht 3 3 (tt := 32) rfl
  have hc3 : Tryd.prog.cellsOf 32 = 12 := by kernel_rfl
  simp only [hc3] at hy
  obtain ⟨q, g0, hw⟩ := field_int hs ht 0 0 rfl Tryd.underlying5 (by kernel_rfl)
  obtain ⟨tol, g1, _⟩ := field_int hs ht 1 1 rfl Tryd.underlying2 (by kernel_rfl)
  obtain ⟨now, g2, _⟩ := field_int hs ht 2 2 rfl Tryd.underlying2 (by kernel_rfl)
  obtain ⟨sz, g4, hsw⟩ := field_int hs ht 4 15 rfl Tryd.underlying52 (by kernel_rfl)
  obtain ⟨f, g5, _⟩ := field_int hs ht 5 16 rfl Tryd.underlying3 (by kernel_rfl)
  obtain ⟨s, rfl, hs2⟩ := wf_u64n hsw
  obtain ⟨x, b, hx, hbh, hba⟩ := open_packet_cells hy
  obtain ⟨c0, c1, c2, c3, c4, c5, c6, c7, c8, c9, c10, c11, c12, c13, c14, c15, c16, rfl⟩ := list17 hl
  simp only [List.drop_succ_cons, List.drop_zero, List.take_succ_cons, List.take_zero, List.getElem?_cons_zero, List.getElem?_cons_succ, Option.some.injEq, List.cons.injEq, and_true] at g0 g1 g2 g4 g5 hx
  obtain ⟨rfl, rfl, rfl, rfl, rfl, rfl, rfl, rfl, rfl, rfl, rfl, rfl⟩ := hx
  subst g0 g1 g2 g4 g5
  exact ⟨⟨q, tol, now, x, b, s, f⟩, rfl, wf_u8 hw, hs2, hbh⟩
/-- One call that came in. -/
theorem open_ract (hv : Value.okWide Tryd.prog w r b0 54 v) (h : DataW.Trod enc Tryd.prog w base spare held 54 v d p) : ∃ a : RA, v = .agg a.cells ∧ RAOk w a := by
  have hs := Tryd.underlying54
  obtain ⟨⟨cs⟩, rfl, hsz⟩ := okWide_struct hs hv
  obtain ⟨fuel, hf⟩ := h
  have hf : DataW.trod enc Tryd.prog w base spare held fuel 54 cs = some (d, p) := hf
  obtain ⟨a, rfl, ha⟩ := open_ract_cells hf
  exact ⟨a, rfl, ha⟩
abbrev rav (a : RA) : List Value := a.cells.toList
/-- A slice of calls that came in. -/
theorem open_racts (hv : Value.okWide Tryd.prog w r b0 59 v) (h : DataW.Trod enc Tryd.prog w base spare held 59 v d p) : ∃ l, GHas rav 17 w v l ∧ ∀ a ∈ l, RAOk w a :=
  open_rows (k := 16) Tryd.underlying59 (by kernel_rfl) (fun _ => rfl) (fun {m cs y} ht => open_ract_cells ht) hv h
end
theorem gTab : Tryd.prog.globalNamed "math/bits.deBruijn64tab" = some 0 := by kernel_rfl
theorem tTab : (Tryd.prog.globals[0]?).map (·.type) = some 151 := by kernel_rfl
theorem laid_of {W : World} (h : laidMetH Tryd.prog [("math/bits.deBruijn64tab", Rows.laid_math_bits_deBruijn64tab)] W) : Laid W := by
  rw [MakeChecks.laidMetH_plain _ _ _ (by kernel_rfl)] at h
  have hT := Lib.tabIs_of_head (k := .u8) (zs := Lib.deBruijn64tab.map fun (x : Nat) => (x : Int)) (rest := []) gTab tTab Tryd.underlying151 Tryd.underlying5 (by kernel_rfl) (by kernel_rfl) h
  have hc : ∀ i, i < 64 → W.cell? ⟨0, i, none⟩ = some (.int .u8 (Lib.deBruijn64tab.getD i 0 : Int)) := by
    intro i hi
    have := hT.cell gTab i (by simpa [Lib.deBruijn64tab] using hi)
    rw [this]
    simp [List.getD_eq_getElem?_getD, List.getElem?_eq_getElem (show i < Lib.deBruijn64tab.length by simpa [Lib.deBruijn64tab] using hi)]
  exact fun i hi => hc i (by simpa [Lib.deBruijn64tab] using hi)
/-- The door's own heap meets the condition. -/
theorem door_met (os : Os) (args : Array Value) : laidMetH Tryd.prog [("math/bits.deBruijn64tab", Rows.laid_math_bits_deBruijn64tab)] ((World.doorLaid Tryd.prog 400 os).forCall (fun _ _ => 0) ⟨#[], args, []⟩).memory :=
  laidMetH_of_parts3 (fuel := 8) (laidMet_of_run' 8 (by kernel_rfl) (by kernel_rfl)) (by kernel_rfl) (by kernel_rfl)
end Go.Proofs.YtgjieoljfcfacaaDoor
