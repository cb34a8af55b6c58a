/- A slice of numbers that came in, opened (without XTrimA, whose contracts of the shelf are laid for one seat). -/
import Derived.Test.YtdmmceclohkkdaaKeyO
import Derived.Deep.Slices
namespace Go.Proofs.Ytdmmceclohkkdaa
open Go.ChangeShapes Go.WideShapes Go.ChangeAt Go.RowKit Go.Joins Go.Deep
set_option maxRecDepth 100000

/-- The slice v holds the integers l. -/
def IHas (w : World) (v : Value) (l : List Int) : Prop := (l = [] ∧ ∃ a cap, v = .slice a 0 cap) ∨ ∃ g o cap, v = .slice (some ⟨g, o, none⟩) l.length cap ∧ l.length ≤ cap ∧ g < w.heap.size ∧ ∀ i, (h : i < l.length) → w.cell? ⟨g, o + i, none⟩ = some (.int .i64 l[i])
theorem IHas.grows {w w' : World} {v : Value} {l : List Int} (h : IHas w v l) (hg : Grows w w') : IHas w' v l := by
  rcases h with h | ⟨g, o, cap, h1, h0, h2, h3⟩
  · exact .inl h
  · exact .inr ⟨g, o, cap, h1, h0, Nat.lt_of_lt_of_le h2 hg.size, fun i hi => (hg.cell (p := ⟨g, o + i, none⟩) h2).trans (h3 i hi)⟩
def Rng (l : List Int) : Prop := ∀ x ∈ l, -9223372036854775808 ≤ x ∧ x ≤ 9223372036854775807
section
variable {H : Type} {enc : TypeId × Value → H} {w : World} {base b0 : Nat} {spare : Nat → Bool} {held : Bool} {r : Reach} {v : Value} {d : DataW H} {p : List MemPlace}
/-- The slice v holds the numbers l, of whatever kind. -/
def NHas (k : IntKind) (w : World) (v : Value) (l : List Int) : Prop := (l = [] ∧ ∃ a cap, v = .slice a 0 cap) ∨ ∃ g o cap, v = .slice (some ⟨g, o, none⟩) l.length cap ∧ l.length ≤ cap ∧ g < w.heap.size ∧ ∀ i, (h : i < l.length) → w.cell? ⟨g, o + i, none⟩ = some (.int k l[i])
theorem open_nums {T E : TypeId} {k : IntKind} (hs : Try.prog.underlying T = some (.slice E)) (he : Try.prog.underlying E = some (.int k)) (hC : Try.prog.cellsOf E = 1)
    (hv : Value.okWide Try.prog w r b0 T v) (h : DataW.Trod enc Try.prog w base spare held T v d p) : ∃ l, NHas k w v l ∧ ∀ x ∈ l, (Lit.int k x).wf = true := by
  obtain ⟨a, len, cap, rfl⟩ := okWide_slice hs hv
  obtain ⟨fuel, hf⟩ := h
  rcases open_slice hs hf with ⟨hcs, _⟩ | ⟨a', len', cap', m, n, D, Pl, hcs, _, hl, hm, hmm, _, hi⟩
  · simp [Value.cells] at hcs
    obtain ⟨rfl, rfl, rfl⟩ := hcs
    exact ⟨[], .inl ⟨rfl, _, _, rfl⟩, fun x hx => by simp at hx⟩
  · simp [Value.cells] at hcs
    obtain ⟨rfl, rfl, rfl⟩ := hcs
    by_cases h0 : len = 0
    · subst h0
      exact ⟨[], .inl ⟨rfl, _, _, rfl⟩, fun x hx => by simp at hx⟩
    · have hlm : len ≤ m := by rw [hmm]; split <;> omega
      have key : ∀ i, i < len → ∃ x : Int, w.cell? (a'.add i) = some (.int k x) ∧ (Lit.int k x).wf = true := by
        intro i hil
        obtain ⟨cs', hc, ht⟩ := hi i (by omega)
        rw [hC, Nat.mul_one] at hc
        obtain ⟨_, hcl, hat⟩ := World.cells?_some hc
        obtain ⟨q, hk, _, hw⟩ := DataW.trod_int he ht
        have a0 := hat 0 (by omega)
        refine ⟨q, ?_, hw⟩
        rw [hk] at a0
        simpa [Addr.add] using a0
      obtain ⟨F, hF⟩ := choose_lt key
      obtain ⟨b, o, spot⟩ := a'
      have hsp : spot = none := by
        have := World.cell?_spot (hF 0 (by omega)).1
        simpa [Addr.add] using this
      subst hsp
      refine ⟨(List.range len).map F, .inr ⟨b, o, cap, by simp, by simp; omega, ?_, ?_⟩, ?_⟩
      · have := (hF 0 (by omega)).1
        exact block_lt_of_cell (a := (⟨b, o, none⟩ : Addr).add 0) this
      · intro i hil
        have hil' : i < len := by simpa using hil
        have := (hF i hil').1
        simp only [List.getElem_map, List.getElem_range]
        rwa [addr_add] at this
      · intro x hx
        rw [List.mem_map] at hx
        obtain ⟨i, hi2, rfl⟩ := hx
        exact (hF i (List.mem_range.1 hi2)).2
theorem open_ints (hv : Value.okWide Try.prog w r b0 50 v) (h : DataW.Trod enc Try.prog w base spare held 50 v d p) : ∃ l, IHas w v l ∧ Rng l := by
  obtain ⟨l, h1, h2⟩ := open_nums Try.underlying50 Try.underlying2 (by kernel_rfl) hv h
  exact ⟨l, h1, fun x hx => wf_i64 (h2 x hx)⟩
end
end Go.Proofs.Ytdmmceclohkkdaa
