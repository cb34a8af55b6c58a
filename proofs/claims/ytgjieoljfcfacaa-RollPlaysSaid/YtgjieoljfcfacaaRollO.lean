/- A slice of calls that came in, opened: each call's number and node lie in memory. -/
import Derived.Test.YtgjieoljfcfacaaOpen
import Derived.Deep.Slices
namespace Go.Proofs.Ytgjieoljfcfacaa
open Go.ChangeShapes Go.WideShapes Go.ChangeAt Go.RowKit Go.Joins Go.Deep
set_option maxRecDepth 100000

/-- A slice's value, and what its elements hold: a kind, a number, a node. -/
def ActsAt (w : World) (v : Value) (l : List (Int × Int × Int)) : Prop :=
  (l = [] ∧ ∃ a cap, v = .slice a 0 cap) ∨
  ∃ b o cap, v = .slice (some ⟨b, o, none⟩) l.length cap ∧ l.length ≤ maxLen ∧ b < w.heap.size ∧
    ∀ i, (h : i < l.length) → w.cell? ⟨b, o + i * 3, none⟩ = some (.int .u8 l[i].1) ∧ w.cell? ⟨b, o + i * 3 + 1, none⟩ = some (.int .i64 l[i].2.1) ∧ w.cell? ⟨b, o + i * 3 + 2, none⟩ = some (.int .i64 l[i].2.2) ∧
      (Lit.int .u8 l[i].1).wf = true ∧ (Lit.int .i64 l[i].2.1).wf = true ∧ (Lit.int .i64 l[i].2.2).wf = true

section
variable {H : Type} {enc : TypeId × Value → H} {w : World} {base b0 : Nat} {spare : Nat → Bool} {held : Bool} {r : Reach} {v : Value} {d : DataW H} {p : List MemPlace}
theorem add_none (b o k : Nat) : (⟨b, o, none⟩ : Addr).add k = ⟨b, o + k, none⟩ := by
  unfold Addr.add
  split
  · rename_i h; subst h; rfl
  · rfl
theorem list3 {α : Type} {l : List α} (h : l.length = 3) : ∃ c0 c1 c2, l = [c0, c1, c2] := by
  match l, h with
  | [c0, c1, c2], _ => exact ⟨_, _, _, rfl⟩

theorem open_acts (hv : Value.okWide Try.prog w r b0 22 v) (h : DataW.Trod enc Try.prog w base spare held 22 v d p) : ∃ l, ActsAt w v l := by
  have hs := Try.underlying22
  have he := Try.underlying32
  have hC : Try.prog.cellsOf 32 = 3 := by kernel_rfl
  obtain ⟨a, len, cap, rfl⟩ := okWide_slice hs hv
  obtain ⟨fuel, hf⟩ := h
  rcases open_slice hs hf with ⟨hcs, _⟩ | ⟨a', len', cap', m, n, D, Pl, hcs, _, hl, hm, hmm, _, hi⟩
  · simp [Value.cells] at hcs
    obtain ⟨rfl, rfl, rfl⟩ := hcs
    exact ⟨[], .inl ⟨rfl, _, _, rfl⟩⟩
  · simp [Value.cells] at hcs
    obtain ⟨rfl, rfl, rfl⟩ := hcs
    by_cases h0 : len = 0
    · subst h0
      exact ⟨[], .inl ⟨rfl, _, _, rfl⟩⟩
    · have hlm : len ≤ m := by rw [hmm]; split <;> omega
      have key : ∀ i, i < len → ∃ x : Int × Int × Int, w.cell? (a'.add (i * 3)) = some (.int .u8 x.1) ∧ w.cell? (a'.add (i * 3 + 1)) = some (.int .i64 x.2.1) ∧ w.cell? (a'.add (i * 3 + 2)) = some (.int .i64 x.2.2) ∧
          (Lit.int .u8 x.1).wf = true ∧ (Lit.int .i64 x.2.1).wf = true ∧ (Lit.int .i64 x.2.2).wf = true := by
        intro i hil
        obtain ⟨cs', hc, ht⟩ := hi i (by omega)
        rw [hC] at hc
        obtain ⟨_, hcl, hat⟩ := World.cells?_some hc
        obtain ⟨k, g0, w0⟩ := field_int he ht 0 0 rfl Try.underlying5 (by kernel_rfl)
        obtain ⟨no, g1, w1⟩ := field_int he ht 1 1 rfl Try.underlying2 (by kernel_rfl)
        obtain ⟨f, g2, w2⟩ := field_int he ht 2 2 rfl Try.underlying3 (by kernel_rfl)
        have a0 := hat 0 (by omega)
        have a1 := hat 1 (by omega)
        have a2 := hat 2 (by omega)
        rw [g0] at a0; rw [g1] at a1; rw [g2] at a2
        refine ⟨(k, no, f), ?_, ?_, ?_, w0, w1, w2⟩
        · rw [Go.Deep.add_add] at a0; exact a0
        · rw [Go.Deep.add_add] at a1; exact a1
        · rw [Go.Deep.add_add] at a2; exact a2
      obtain ⟨F, hF⟩ := choose_lt key
      obtain ⟨b, o, spot⟩ := a'
      have hsp : spot = none := by
        have := World.cell?_spot (hF 0 (by omega)).1
        simpa [Addr.add] using this
      subst hsp
      refine ⟨(List.range len).map F, .inr ⟨b, o, cap, by simp, by simp; omega, ?_, ?_⟩⟩
      · have := (hF 0 (by omega)).1
        exact block_lt_of_cell (a := (⟨b, o, none⟩ : Addr).add (0 * 3)) this
      · intro i hil
        have hil' : i < len := by simpa using hil
        have := hF i hil'
        simp only [List.getElem_map, List.getElem_range]
        rw [add_none, add_none, add_none, ← Nat.add_assoc, ← Nat.add_assoc] at this
        exact this
end
end Go.Proofs.Ytgjieoljfcfacaa
