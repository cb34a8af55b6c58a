/- A slice of keys that came in, opened. -/
import Derived.Test.YtdmmceclohkkdaaOpen
import Derived.Test.YtdmmceclohkkdaaKeyRow
import Derived.Deep.Slices
namespace Go.Proofs.Ytdmmceclohkkdaa
open Go.ChangeShapes Go.WideShapes Go.ChangeAt Go.RowKit Go.Joins Go.Deep
set_option maxRecDepth 100000

instance : Inhabited KW := ⟨⟨0, 0, 0⟩⟩
section
variable {H : Type} {enc : TypeId × Value → H} {w : World} {base b0 : Nat} {spare : Nat → Bool} {held : Bool} {r : Reach} {v : Value} {d : DataW H} {p : List MemPlace}
theorem add_none (b o k : Nat) : (⟨b, o, none⟩ : Addr).add k = ⟨b, o + k, none⟩ := by
  unfold Addr.add
  split
  · rename_i h; subst h; rfl
  · rfl
theorem wf_u64 {x : Int} (h : (Lit.int .u64 x).wf = true) : 0 ≤ x ∧ x ≤ 18446744073709551615 := by
  simp [Lit.wf, IntKind.min, IntKind.max, IntKind.signed, IntKind.bits] at h; omega

theorem open_keys (hv : Value.okWide Try.prog w r b0 22 v) (h : DataW.Trod enc Try.prog w base spare held 22 v d p) : ∃ l, KHas w v l ∧ l.length ≤ 9223372036854775807 := by
  have hs := Try.underlying22
  have he := Try.underlying29
  have hC : Try.prog.cellsOf 29 = 3 := by kernel_rfl
  obtain ⟨a, len, cap, rfl⟩ := okWide_slice hs hv
  obtain ⟨fuel, hf⟩ := h
  rcases open_slice hs hf with ⟨hcs, _⟩ | ⟨a', len', cap', m, n, D, Pl, hcs, _, hl, hm, hmm, _, hi⟩
  · simp [Value.cells] at hcs
    obtain ⟨rfl, rfl, rfl⟩ := hcs
    exact ⟨[], .inl ⟨rfl, _, _, rfl⟩, by simp⟩
  · simp [Value.cells] at hcs
    obtain ⟨rfl, rfl, rfl⟩ := hcs
    by_cases h0 : len = 0
    · subst h0
      exact ⟨[], .inl ⟨rfl, _, _, rfl⟩, by simp⟩
    · have hlm : len ≤ m := by rw [hmm]; split <;> omega
      have key : ∀ i, i < len → ∃ x : KW, w.cell? (a'.add (i * 3)) = some (.int .i64 x.t) ∧ w.cell? (a'.add (i * 3 + 1)) = some (.int .i64 x.f) ∧ w.cell? (a'.add (i * 3 + 2)) = some (.int .u32 x.s) := by
        intro i hil
        obtain ⟨cs', hc, ht⟩ := hi i (by omega)
        rw [hC] at hc
        obtain ⟨_, hcl, hat⟩ := World.cells?_some hc
        obtain ⟨no, g0, w0⟩ := field_int he ht 0 0 rfl Try.underlying2 (by kernel_rfl)
        obtain ⟨tm, g1, w1⟩ := field_int he ht 1 1 rfl Try.underlying3 (by kernel_rfl)
        obtain ⟨s, g2, w2⟩ := field_int he ht 2 2 rfl Try.underlying27 (by kernel_rfl)
        have a0 := hat 0 (by omega)
        have a1 := hat 1 (by omega)
        have a2 := hat 2 (by omega)
        rw [g0] at a0; rw [g1] at a1; rw [g2] at a2
        refine ⟨⟨no, tm, s⟩, ?_, ?_, ?_⟩
        · rw [Go.Deep.add_add] at a0; exact a0
        · rw [Go.Deep.add_add] at a1; exact a1
        · rw [Go.Deep.add_add] at a2; exact a2
      obtain ⟨F, hF⟩ := choose_lt key
      obtain ⟨b, o, spot⟩ := a'
      have hsp : spot = none := by
        have := World.cell?_spot (hF 0 (by omega)).1
        simpa [Addr.add] using this
      subst hsp
      refine ⟨(List.range len).map F, .inr ⟨b, o, cap, by simp, by simpa using hl, ?_, ?_⟩, ?_⟩
      · have := (hF 0 (by omega)).1
        exact block_lt_of_cell (a := (⟨b, o, none⟩ : Addr).add (0 * 3)) this
      · intro i hil j hj
        have hil' : i < len := by simpa using hil
        obtain ⟨f0, f1, f2⟩ := hF i hil'
        simp only [List.getElem_map, List.getElem_range]
        rw [add_none] at f0 f1 f2
        rw [← Nat.add_assoc] at f1 f2
        match j, hj with
        | 0, _ => exact f0
        | 1, _ => exact f1
        | 2, _ => exact f2
      · simp only [List.length_map, List.length_range]
        unfold maxLen at hm
        omega
theorem list3 {α : Type} {l : List α} (h : l.length = 3) : ∃ c0 c1 c2, l = [c0, c1, c2] := by
  match l, h with
  | [c0, c1, c2], _ => exact ⟨_, _, _, rfl⟩
theorem open_key_cells {m : Nat} {cs : List Value} {y : DataW H × List MemPlace} (h : DataW.trod enc Try.prog w base spare held m 29 cs = some y) : ∃ x : KW, cs = [.int .i64 x.t, .int .i64 x.f, .int .u32 x.s] := by
  have hs := Try.underlying29
  have hl : cs.length = 3 := (field_len hs h).trans (by kernel_rfl)
  obtain ⟨t, k0, _⟩ := field_int hs h 0 0 rfl Try.underlying2 (by kernel_rfl)
  obtain ⟨f, k1, _⟩ := field_int hs h 1 1 rfl Try.underlying3 (by kernel_rfl)
  obtain ⟨s, k2, _⟩ := field_int hs h 2 2 rfl Try.underlying27 (by kernel_rfl)
  obtain ⟨c0, c1, c2, rfl⟩ := list3 hl
  simp only [List.getElem?_cons_zero, List.getElem?_cons_succ, Option.some.injEq] at k0 k1 k2
  subst k0 k1 k2
  exact ⟨⟨t, f, s⟩, rfl⟩
/-- One key that came in. -/
theorem open_key (hv : Value.okWide Try.prog w r b0 29 v) (h : DataW.Trod enc Try.prog w base spare held 29 v d p) : ∃ x : KW, v = x.val := by
  have hs := Try.underlying29
  obtain ⟨⟨cs⟩, rfl, hsz⟩ := okWide_struct hs hv
  obtain ⟨fuel, hf⟩ := h
  have hf : DataW.trod enc Try.prog w base spare held fuel 29 cs = some (d, p) := hf
  obtain ⟨x, rfl⟩ := open_key_cells hf
  exact ⟨x, rfl⟩
end
end Go.Proofs.Ytdmmceclohkkdaa
