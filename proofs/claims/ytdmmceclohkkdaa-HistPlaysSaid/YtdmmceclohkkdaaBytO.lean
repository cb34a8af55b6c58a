/- A slice of bytes that came in, opened. -/
import Derived.Test.YtdmmceclohkkdaaKeyO
import Derived.Test.YtdmmceclohkkdaaByt
namespace Go.Proofs.Ytdmmceclohkkdaa
open Go.ChangeShapes Go.WideShapes Go.ChangeAt Go.RowKit Go.Joins Go.Deep
set_option maxRecDepth 100000
section
variable {H : Type} {enc : TypeId × Value → H} {w : World} {base b0 : Nat} {spare : Nat → Bool} {held : Bool} {r : Reach} {v : Value} {d : DataW H} {p : List MemPlace}
theorem open_bytes_cells {m : Nat} {c : Value} {y : DataW H × List MemPlace} (h : DataW.trod enc Try.prog w base spare held m 74 [c] = some y) : ∃ ba bl bc b, c = .slice ba bl bc ∧ BHas w ba bl bc b ∧ (ba = none → bc = 0) := by
  have hs := Try.underlying74
  have he := Try.underlying5
  have hC : Try.prog.cellsOf 5 = 1 := by kernel_rfl
  rcases open_slice hs h with ⟨hcs, _⟩ | ⟨a', len, cap, m, n, D, Pl, hcs, _, hl, hm, hmm, _, hi⟩
  · cases hcs
    exact ⟨none, 0, 0, [], rfl, ⟨rfl, .inl rfl⟩, fun _ => rfl⟩
  · cases hcs
    by_cases h0 : len = 0
    · subst h0
      exact ⟨_, _, _, [], rfl, ⟨rfl, .inl rfl⟩, fun h => by cases h⟩
    · have hlm : len ≤ m := by rw [hmm]; split <;> omega
      have key : ∀ i, i < len → ∃ x : Int, w.cell? (a'.add i) = some (.int .u8 x) := by
        intro i hil
        obtain ⟨cs', hc, ht⟩ := hi i (by omega)
        rw [hC, Nat.mul_one] at hc
        obtain ⟨_, hcl, hat⟩ := World.cells?_some hc
        obtain ⟨q, hk, _, hw⟩ := DataW.trod_int he ht
        have a0 := hat 0 (by omega)
        rw [hk] at a0
        exact ⟨q, by simpa [Addr.add] using a0⟩
      obtain ⟨F, hF⟩ := choose_lt key
      obtain ⟨b, o, spot⟩ := a'
      have hsp : spot = none := by
        have := World.cell?_spot (hF 0 (by omega))
        simpa [Addr.add] using this
      subst hsp
      refine ⟨_, _, _, (List.range len).map F, rfl, ⟨by simp, .inr ⟨b, o, rfl, hl, ?_, ?_⟩⟩, fun h => by cases h⟩
      · have := hF 0 (by omega)
        exact block_lt_of_cell (a := (⟨b, o, none⟩ : Addr).add 0) this
      · intro i hil
        have hil' : i < len := by simpa using hil
        have := hF i hil'
        simp only [List.getElem_map, List.getElem_range]
        rwa [addr_add] at this

theorem open_bytes_arg (hv : Value.okWide Try.prog w r b0 74 v) (h : DataW.Trod enc Try.prog w base spare held 74 v d p) : ∃ ba bl bc b, v = .slice ba bl bc ∧ BHas w ba bl bc b ∧ (ba = none → bc = 0) := by
  obtain ⟨a, len, cap, rfl⟩ := okWide_slice Try.underlying74 hv
  obtain ⟨fuel, hf⟩ := h
  have hf : DataW.trod enc Try.prog w base spare held fuel 74 [.slice a len cap] = some (d, p) := hf
  exact open_bytes_cells hf
end
end Go.Proofs.Ytdmmceclohkkdaa
