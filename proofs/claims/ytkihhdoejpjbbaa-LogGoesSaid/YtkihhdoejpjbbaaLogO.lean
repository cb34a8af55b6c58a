/- Entries that came in, opened. -/
import Derived.Test.YtkihhdoejpjbbaaOpen
import Derived.Test.YtkihhdoejpjbbaaLogG
import Derived.Deep.Slices
namespace Go.Proofs.Ytkihhdoejpjbbaa
open Go.ChangeShapes Go.WideShapes Go.ChangeAt Go.RowKit Go.Joins Go.Deep
set_option maxRecDepth 100000

instance : Inhabited EW := ⟨⟨0, ⟨0, 0, 0⟩, none, 0, 0, []⟩⟩
theorem list5 {α : Type} {l : List α} (h : l.length = 5) : ∃ c0 c1 c2 c3 c4, l = [c0, c1, c2, c3, c4] := by
  match l, h with
  | [c0, c1, c2, c3, c4], _ => exact ⟨_, _, _, _, _, rfl⟩
section
variable {H : Type} {enc : TypeId × Value → H} {w : World} {base b0 : Nat} {spare : Nat → Bool} {held : Bool} {r : Reach} {v : Value} {d : DataW H} {p : List MemPlace}
theorem open_bytes {m : Nat} {c : Value} {y : DataW H × List MemPlace} (h : DataW.trod enc Try.prog w base spare held m 54 [c] = some y) : ∃ ba bl bc b, c = .slice ba bl bc ∧ BHas w ba bl bc b := by
  have hs := Try.underlying54
  have he := Try.underlying5
  have hC : Try.prog.cellsOf 5 = 1 := by kernel_rfl
  rcases open_slice hs h with ⟨hcs, _⟩ | ⟨a', len, cap, m, n, D, Pl, hcs, _, hl, hm, hmm, _, hi⟩
  · cases hcs
    exact ⟨none, 0, 0, [], rfl, rfl, .inl rfl⟩
  · cases hcs
    by_cases h0 : len = 0
    · subst h0
      exact ⟨_, _, _, [], rfl, rfl, .inl rfl⟩
    · have hlm : len ≤ m := by rw [hmm]; split <;> omega
      have key : ∀ i, i < len → ∃ x : Int, w.cell? (a'.add i) = some (.int .u8 x) := by
        intro i hil
        obtain ⟨cs', hc, ht⟩ := hi i (by omega)
        rw [hC, Nat.mul_one] at hc
        obtain ⟨_, hcl, hat⟩ := World.cells?_some hc
        obtain ⟨q, hk, _, hw⟩ := DataW.trod_int he ht
        have a0 := hat 0 (by omega)
        rw [hk] at a0
        exact ⟨q, by simpa [Addr.add] using a0⟩
      obtain ⟨F, hF⟩ := choose_lt key
      obtain ⟨b, o, spot⟩ := a'
      have hsp : spot = none := by
        have := World.cell?_spot (hF 0 (by omega))
        simpa [Addr.add] using this
      subst hsp
      refine ⟨_, _, _, (List.range len).map F, rfl, by simp, .inr ⟨b, o, rfl, hl, ?_, ?_⟩⟩
      · have := hF 0 (by omega)
        exact block_lt_of_cell (a := (⟨b, o, none⟩ : Addr).add 0) this
      · intro i hil
        have hil' : i < len := by simpa using hil
        have := hF i hil'
        simp only [List.getElem_map, List.getElem_range]
        rwa [addr_add] at this

theorem open_entry_cells {m : Nat} {cs : List Value} {y : DataW H × List MemPlace} (h : DataW.trod enc Try.prog w base spare held m 56 cs = some y) : ∃ x : EW, cs = ev x ∧ BHas w x.ba x.bl x.bc x.b := by
  have hs := Try.underlying56
  have hk := Try.underlying53
  have hl : cs.length = 5 := (field_len hs h).trans (by kernel_rfl)
  obtain ⟨m1, y1, hy⟩ := field_at hs h 1 1 (tt := 53) rfl
  have hc3 : Try.prog.cellsOf 53 = 3 := by kernel_rfl
  simp only [hc3] at hy
  obtain ⟨a, g0, _⟩ := field_int hs h 0 0 rfl Try.underlying2 (by kernel_rfl)
  obtain ⟨t, k0, _⟩ := field_int hk hy 0 0 rfl Try.underlying2 (by kernel_rfl)
  obtain ⟨f, k1, _⟩ := field_int hk hy 1 1 rfl Try.underlying3 (by kernel_rfl)
  obtain ⟨s, k2, _⟩ := field_int hk hy 2 2 rfl Try.underlying51 (by kernel_rfl)
  obtain ⟨m2, y2, hb⟩ := field_at hs h 2 4 (tt := 54) rfl
  have hc1 : Try.prog.cellsOf 54 = 1 := by kernel_rfl
  simp only [hc1] at hb
  obtain ⟨c0, c1, c2, c3, c4, rfl⟩ := list5 hl
  simp only [List.drop_succ_cons, List.drop_zero, List.take_succ_cons, List.take_zero, List.getElem?_cons_zero, List.getElem?_cons_succ, Option.some.injEq] at g0 k0 k1 k2 hb
  obtain ⟨ba, bl, bc, b, rfl, hbh⟩ := open_bytes hb
  subst g0 k0 k1 k2
  exact ⟨⟨a, ⟨t, f, s⟩, ba, bl, bc, b⟩, rfl, hbh⟩

theorem open_entries (hv : Value.okWide Try.prog w r b0 47 v) (h : DataW.Trod enc Try.prog w base spare held 47 v d p) : ∃ l, EHas w v l ∧ l.length ≤ 9223372036854775807 := by
  have hs := Try.underlying47
  have hC : Try.prog.cellsOf 56 = 5 := by kernel_rfl
  obtain ⟨a, len, cap, rfl⟩ := okWide_slice hs hv
  obtain ⟨fuel, hf⟩ := h
  rcases open_slice hs hf with ⟨hcs, _⟩ | ⟨a', len', cap', m, n, D, Pl, hcs, _, hl, hm, hmm, _, hi⟩
  · simp [Value.cells] at hcs
    obtain ⟨rfl, rfl, rfl⟩ := hcs
    exact ⟨[], ⟨.inl ⟨rfl, _, _, rfl⟩, fun x hx => by simp at hx⟩, by simp⟩
  · simp [Value.cells] at hcs
    obtain ⟨rfl, rfl, rfl⟩ := hcs
    by_cases h0 : len = 0
    · subst h0
      exact ⟨[], ⟨.inl ⟨rfl, _, _, rfl⟩, fun x hx => by simp at hx⟩, by simp⟩
    · have hlm : len ≤ m := by rw [hmm]; split <;> omega
      have key : ∀ i, i < len → ∃ x : EW, (∀ j, j < 5 → w.cell? (a'.add (i * 5 + j)) = (ev x)[j]?) ∧ BHas w x.ba x.bl x.bc x.b := by
        intro i hil
        obtain ⟨cs', hc, ht⟩ := hi i (by omega)
        rw [hC] at hc
        obtain ⟨_, hcl, hat⟩ := World.cells?_some hc
        obtain ⟨x, rfl, hb⟩ := open_entry_cells ht
        refine ⟨x, fun j hj => ?_, hb⟩
        have := hat j (by omega)
        rw [Go.Deep.add_add] at this
        exact this
      obtain ⟨F, hF⟩ := choose_lt key
      obtain ⟨b, o, spot⟩ := a'
      have hsp : spot = none := by
        have h9 := (hF 0 (by omega)).1 0 (by omega)
        have := World.cell?_spot (v := .int .i64 (F 0).a) h9
        simpa [Addr.add] using this
      subst hsp
      refine ⟨(List.range len).map F, ⟨.inr ⟨b, o, cap, by simp, by simp; omega, ?_, ?_⟩, ?_⟩, ?_⟩
      · have h9 := (hF 0 (by omega)).1 0 (by omega)
        exact block_lt_of_cell (a := (⟨b, o, none⟩ : Addr).add (0 * 5 + 0)) (v := .int .i64 (F 0).a) h9
      · intro i hil j hj
        have hil' : i < len := by simpa using hil
        have := (hF i hil').1 j hj
        simp only [List.getElem_map, List.getElem_range]
        rw [addr_add, ← Nat.add_assoc] at this
        exact this
      · intro x hx
        rw [List.mem_map] at hx
        obtain ⟨i, hi2, rfl⟩ := hx
        exact (hF i (List.mem_range.1 hi2)).2
      · have hml : len ≤ maxLen := Nat.le_trans hl hm
        unfold maxLen at hml
        simp
        omega
/-- One entry that came in. -/
theorem open_entry (hv : Value.okWide Try.prog w r b0 56 v) (h : DataW.Trod enc Try.prog w base spare held 56 v d p) : ∃ x : EW, v = x.val ∧ BHas w x.ba x.bl x.bc x.b := by
  have hs := Try.underlying56
  obtain ⟨⟨cs⟩, rfl, hsz⟩ := okWide_struct hs hv
  obtain ⟨fuel, hf⟩ := h
  have hf : DataW.trod enc Try.prog w base spare held fuel 56 cs = some (d, p) := hf
  obtain ⟨x, rfl, hb⟩ := open_entry_cells hf
  exact ⟨x, rfl, hb⟩
end
end Go.Proofs.Ytkihhdoejpjbbaa
