/- The calls that came in (TablePlays: a kind, a key, a row; SeenPlays: whether to expire, a key, a time), opened. -/
import Derived.Test.YtdmmceclohkkdaaKeyO
/- A slice of rows that came in, opened: rows of any shape. -/
namespace Go.Proofs.Ytdmmceclohkkdaa
open Go.ChangeShapes Go.WideShapes Go.ChangeAt Go.RowKit Go.Joins Go.Deep
set_option maxRecDepth 100000
/-- The slice v holds the rows l. -/
def GHas {α : Type} (f : α → List Value) (k : Nat) (w : World) (v : Value) (l : List α) : Prop := (l = [] ∧ ∃ a cap, v = .slice a 0 cap) ∨ ∃ g o cap, v = .slice (some ⟨g, o, none⟩) l.length cap ∧ l.length ≤ cap ∧ g < w.heap.size ∧ RAt f k w g o l
section
variable {α : Type} {f : α → List Value} {k : Nat}
theorem GHas.grows {w w' : World} {v : Value} {l : List α} (h : GHas f k w v l) (hg : Grows w w') : GHas f k w' v l := by
  rcases h with h | ⟨g, o, cap, h1, h2, h3, h4⟩
  · exact .inl h
  · exact .inr ⟨g, o, cap, h1, h2, Nat.lt_of_lt_of_le h3 hg.size, h4.grows hg h3⟩
theorem GHas.form {w : World} {v : Value} {l : List α} {n : Nat} (h : GHas f k w v l) (hn : l.length = n) (h0 : 0 < n) : ∃ g o cap, v = .slice (some ⟨g, o, none⟩) n cap ∧ n ≤ cap ∧ g < w.heap.size ∧ RAt f k w g o l := by
  subst hn
  rcases h with ⟨rfl, _⟩ | h
  · simp at h0
  · exact h
theorem GHas.len {w : World} {v : Value} {l : List α} {n : Nat} (h : GHas f k w v l) (hn : l.length = n) : ∃ a cap, v = .slice a n cap := by
  subst hn
  rcases h with ⟨rfl, a, cap, rfl⟩ | ⟨g, o, cap, h, _⟩
  · exact ⟨a, cap, rfl⟩
  · exact ⟨_, cap, h⟩
end
section
variable {H : Type} {enc : TypeId × Value → H} {w : World} {base b0 : Nat} {spare : Nat → Bool} {held : Bool} {r : Reach} {v : Value} {d : DataW H} {p : List MemPlace}
theorem open_rows {α : Type} {T E : TypeId} {f : α → List Value} {k : Nat} {Pr : α → Prop} (hs : Try.prog.underlying T = some (.slice E)) (hC : Try.prog.cellsOf E = k + 1) (hf1 : ∀ a, (f a).length = k + 1)
    (hel : ∀ {m : Nat} {cs : List Value} {y : DataW H × List MemPlace}, DataW.trod enc Try.prog w base spare held m E cs = some y → ∃ x, cs = f x ∧ Pr x)
    (hv : Value.okWide Try.prog w r b0 T v) (h : DataW.Trod enc Try.prog w base spare held T v d p) : ∃ l, GHas f (k + 1) w v l ∧ ∀ x ∈ l, Pr x := by
  obtain ⟨a, len, cap, rfl⟩ := okWide_slice hs hv
  obtain ⟨fuel, hf⟩ := h
  rcases open_slice hs hf with ⟨hcs, _⟩ | ⟨a', len', cap', m, n, D, Pl, hcs, _, hl, hm, hmm, _, hi⟩
  · simp [Value.cells] at hcs
    obtain ⟨rfl, rfl, rfl⟩ := hcs
    exact ⟨[], .inl ⟨rfl, _, _, rfl⟩, fun x hx => by simp at hx⟩
  · simp [Value.cells] at hcs
    obtain ⟨rfl, rfl, rfl⟩ := hcs
    by_cases h0 : len = 0
    · subst h0
      exact ⟨[], .inl ⟨rfl, _, _, rfl⟩, fun x hx => by simp at hx⟩
    · have hlm : len ≤ m := by rw [hmm]; split <;> omega
      have key : ∀ i, i < len → ∃ x : α, (∀ j, j < k + 1 → w.cell? (a'.add (i * (k + 1) + j)) = (f x)[j]?) ∧ Pr x := by
        intro i hil
        obtain ⟨cs', hc, ht⟩ := hi i (by omega)
        rw [hC] at hc
        obtain ⟨_, hcl, hat⟩ := World.cells?_some hc
        obtain ⟨x, rfl, hb⟩ := hel ht
        refine ⟨x, fun j hj => ?_, hb⟩
        have := hat j (by omega)
        rw [Go.Deep.add_add] at this
        exact this
      have : Nonempty α := by obtain ⟨x, _⟩ := key 0 (by omega); exact ⟨x⟩
      have : Inhabited α := Classical.inhabited_of_nonempty this
      obtain ⟨F, hF⟩ := choose_lt key
      have h9 : ∃ u, w.cell? (a'.add (0 * (k + 1) + 0)) = some u := by
        have h8 := (hF 0 (by omega)).1 0 (by omega)
        rw [List.getElem?_eq_getElem (by rw [hf1]; omega)] at h8
        exact ⟨_, h8⟩
      obtain ⟨u, h9⟩ := h9
      obtain ⟨b, o, spot⟩ := a'
      have hsp : spot = none := by
        have := World.cell?_spot h9
        simpa [Addr.add] using this
      subst hsp
      refine ⟨(List.range len).map F, .inr ⟨b, o, cap, by simp, by simpa using hl, ?_, ?_⟩, ?_⟩
      · have := block_lt_of_cell h9
        rwa [addr_add] at this
      · intro i hil j hj
        have hil' : i < len := by simpa using hil
        have := (hF i hil').1 j hj
        simp only [List.getElem_map, List.getElem_range]
        rw [addr_add, ← Nat.add_assoc] at this
        exact this
      · intro x hx
        rw [List.mem_map] at hx
        obtain ⟨i, hi2, rfl⟩ := hx
        exact (hF i (List.mem_range.1 hi2)).2
end
end Go.Proofs.Ytdmmceclohkkdaa
namespace Go.Proofs.Ytdmmceclohkkdaa
open Go.ChangeShapes Go.WideShapes Go.ChangeAt Go.RowKit Go.Joins Go.Deep
set_option maxRecDepth 100000
/-- A call: what says which, the key, the number. -/
abbrev AC := Value × KW × Int
abbrev acv (a : AC) : List Value := [a.1, .int .i64 a.2.1.t, .int .i64 a.2.1.f, .int .u32 a.2.1.s, .int .i64 a.2.2]
/-- The slice v holds the calls l. -/
abbrev AHas (w : World) (v : Value) (l : List AC) : Prop := GHas acv 5 w v l
def AKind (a : AC) : Prop := ∃ q : Int, a.1 = .int .u8 q ∧ 0 ≤ q ∧ q ≤ 255
def ABool (a : AC) : Prop := ∃ b : Bool, a.1 = .bool b
theorem aat_cells {w : World} {g o : Nat} {l : List AC} (h : RAt acv 5 w g o l) (i : Nat) (hi : i < l.length) : w.cell? ⟨g, o + i * 5, none⟩ = some l[i].1 ∧ w.cell? ⟨g, o + i * 5 + 1, none⟩ = some (.int .i64 l[i].2.1.t) ∧ w.cell? ⟨g, o + i * 5 + 2, none⟩ = some (.int .i64 l[i].2.1.f) ∧ w.cell? ⟨g, o + i * 5 + 3, none⟩ = some (.int .u32 l[i].2.1.s) ∧ w.cell? ⟨g, o + i * 5 + 4, none⟩ = some (.int .i64 l[i].2.2) :=
  ⟨h i hi 0 (by omega), h i hi 1 (by omega), h i hi 2 (by omega), h i hi 3 (by omega), h i hi 4 (by omega)⟩
theorem list5 {α : Type} {l : List α} (h : l.length = 5) : ∃ c0 c1 c2 c3 c4, l = [c0, c1, c2, c3, c4] := by
  match l, h with
  | [c0, c1, c2, c3, c4], _ => exact ⟨_, _, _, _, _, rfl⟩
section
variable {H : Type} {enc : TypeId × Value → H} {w : World} {base b0 : Nat} {spare : Nat → Bool} {held : Bool} {r : Reach} {v : Value} {d : DataW H} {p : List MemPlace}
theorem open_tacts (hv : Value.okWide Try.prog w r b0 54 v) (h : DataW.Trod enc Try.prog w base spare held 54 v d p) : ∃ l, AHas w v l ∧ ∀ x ∈ l, AKind x := by
  refine open_rows (k := 4) Try.underlying54 (by kernel_rfl) (fun _ => rfl) (fun {m cs y} ht => ?_) hv h
  have hs := Try.underlying58
  have hl : cs.length = 5 := (field_len hs ht).trans (by kernel_rfl)
  obtain ⟨m1, y1, hy⟩ := field_at hs ht 1 1 (tt := 29) rfl
  have hc3 : Try.prog.cellsOf 29 = 3 := by kernel_rfl
  simp only [hc3] at hy
  obtain ⟨q, g0, hw⟩ := field_int hs ht 0 0 rfl Try.underlying5 (by kernel_rfl)
  obtain ⟨z, g4, _⟩ := field_int hs ht 2 4 rfl Try.underlying2 (by kernel_rfl)
  obtain ⟨x, hx⟩ := open_key_cells hy
  obtain ⟨c0, c1, c2, c3, c4, rfl⟩ := list5 hl
  simp only [List.drop_succ_cons, List.drop_zero, List.take_succ_cons, List.take_zero, List.getElem?_cons_zero, List.getElem?_cons_succ, Option.some.injEq, List.cons.injEq, and_true] at g0 g4 hx
  obtain ⟨rfl, rfl, rfl⟩ := hx
  subst g0 g4
  exact ⟨(.int .u8 q, x, z), rfl, q, rfl, (wf_u8 hw).1, (wf_u8 hw).2⟩
theorem open_sacts (hv : Value.okWide Try.prog w r b0 64 v) (h : DataW.Trod enc Try.prog w base spare held 64 v d p) : ∃ l, AHas w v l ∧ ∀ x ∈ l, ABool x := by
  refine open_rows (k := 4) Try.underlying64 (by kernel_rfl) (fun _ => rfl) (fun {m cs y} ht => ?_) hv h
  have hs := Try.underlying66
  have hl : cs.length = 5 := (field_len hs ht).trans (by kernel_rfl)
  obtain ⟨m1, y1, hy⟩ := field_at hs ht 1 1 (tt := 29) rfl
  have hc3 : Try.prog.cellsOf 29 = 3 := by kernel_rfl
  simp only [hc3] at hy
  obtain ⟨m0, y0, hy0⟩ := field_at hs ht 0 0 (tt := 4) rfl
  have hc1 : Try.prog.cellsOf 4 = 1 := by kernel_rfl
  simp only [hc1] at hy0
  obtain ⟨q, g0, _⟩ := DataW.trod_bool Try.underlying4 hy0
  obtain ⟨z, g4, _⟩ := field_int hs ht 2 4 rfl Try.underlying2 (by kernel_rfl)
  obtain ⟨x, hx⟩ := open_key_cells hy
  obtain ⟨c0, c1, c2, c3, c4, rfl⟩ := list5 hl
  simp only [List.drop_succ_cons, List.drop_zero, List.take_succ_cons, List.take_zero, List.getElem?_cons_zero, List.getElem?_cons_succ, Option.some.injEq, List.cons.injEq, and_true] at g0 g4 hx
  obtain ⟨rfl, rfl, rfl⟩ := hx
  subst g0 g4
  exact ⟨(.bool q, x, z), rfl, q, rfl⟩
end
end Go.Proofs.Ytdmmceclohkkdaa
