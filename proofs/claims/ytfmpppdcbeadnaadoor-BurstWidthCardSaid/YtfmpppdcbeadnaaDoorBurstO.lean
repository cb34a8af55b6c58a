/- Bytes that came in, opened; the listed table: what the condition gives the walks, a world that meets it. -/
import Derived.Test.YtfmpppdcbeadnaaDoorOpen
import Derived.Test.YtfmpppdcbeadnaaDoorBurstH
import Derived.Test.YtfmpppdcbeadnaaDoorTie
import Derived.Deep.Slices
import Derived.LaidMore
import Derived.LaidHandle
import Derived.Lib.LaidTab
import Derived.Handed
namespace Go.Proofs.YtfmpppdcbeadnaaDoor
open Go.ChangeShapes Go.WideShapes Go.ChangeAt Go.RowKit Go.Joins Go.Deep
set_option maxRecDepth 100000

section
variable {H : Type} {enc : TypeId × Value → H} {w : World} {base b0 : Nat} {spare : Nat → Bool} {held : Bool} {r : Reach} {v : Value} {d : DataW H} {p : List MemPlace}
theorem add_none (b o k : Nat) : (⟨b, o, none⟩ : Addr).add k = ⟨b, o + k, none⟩ := by
  unfold Addr.add
  split
  · rename_i h; subst h; rfl
  · rfl
theorem open_bytes (hv : Value.okWide Tryd.prog w r b0 22 v) (h : DataW.Trod enc Tryd.prog w base spare held 22 v d p) : ∃ xs, BA0 w v xs := by
  have hs := Tryd.underlying22
  have he := Tryd.underlying5
  have hC : Tryd.prog.cellsOf 5 = 1 := by kernel_rfl
  obtain ⟨a, len, cap, rfl⟩ := okWide_slice hs hv
  obtain ⟨fuel, hf⟩ := h
  rcases open_slice hs hf with ⟨hcs, _⟩ | ⟨a', len', cap', m, n, D, Pl, hcs, _, hl, hm, hmm, _, hi⟩
  · simp [Value.cells] at hcs
    obtain ⟨rfl, rfl, rfl⟩ := hcs
    exact ⟨[], .inl ⟨fun x hx => by simp at hx, .inr ⟨rfl, rfl⟩⟩⟩
  · simp [Value.cells] at hcs
    obtain ⟨rfl, rfl, rfl⟩ := hcs
    by_cases h0 : len = 0
    · subst h0
      exact ⟨[], .inr ⟨rfl, _, _, rfl⟩⟩
    · have hlm : len ≤ m := by rw [hmm]; split <;> omega
      have key : ∀ i, i < len → ∃ x : Nat, w.cell? (a'.add i) = some (.int .u8 (x : Int)) ∧ x < 256 := by
        intro i hil
        obtain ⟨cs', hc, ht⟩ := hi i (by omega)
        rw [hC, Nat.mul_one] at hc
        obtain ⟨_, hcl, hat⟩ := World.cells?_some hc
        obtain ⟨k, hk, _, hw⟩ := DataW.trod_int he ht
        have a0 := hat 0 (by omega)
        have hb := wf_u8 hw
        refine ⟨k.toNat, ?_, by omega⟩
        rw [hk] at a0
        rw [show ((k.toNat : Nat) : Int) = k by omega]
        simpa [Addr.add] using a0
      obtain ⟨F, hF⟩ := choose_lt key
      obtain ⟨b, o, spot⟩ := a'
      have hsp : spot = none := by
        have := World.cell?_spot (hF 0 (by omega)).1
        simpa [Addr.add] using this
      subst hsp
      refine ⟨(List.range len).map F, .inl ⟨?_, .inl ⟨b, o, cap, by simp, by simp; omega, ?_, ?_⟩⟩⟩
      · intro x hx
        rw [List.mem_map] at hx
        obtain ⟨i, hi2, rfl⟩ := hx
        exact (hF i (List.mem_range.1 hi2)).2
      · have := (hF 0 (by omega)).1
        exact block_lt_of_cell (a := (⟨b, o, none⟩ : Addr).add 0) this
      · intro i hil
        have hil' : i < len := by simpa using hil
        have := (hF i hil').1
        simp only [List.getElem_map, List.getElem_range]
        rwa [add_none] at this
end

theorem gTab : Tryd.prog.globalNamed "math/bits.deBruijn32tab" = some 0 := by kernel_rfl
theorem tTab : (Tryd.prog.globals[0]?).map (·.type) = some 40 := by kernel_rfl
theorem laid_of {W : World} (h : laidMetH Tryd.prog [("math/bits.deBruijn32tab", Rows.laid_math_bits_deBruijn32tab)] W) : Laid W := by
  rw [MakeChecks.laidMetH_plain _ _ _ (by kernel_rfl)] at h
  have hT := Lib.tabIs_of_head (k := .u8) (zs := Lib.deBruijn32tab.map fun (x : Nat) => (x : Int)) (rest := []) gTab tTab Tryd.underlying40 Tryd.underlying5 (by kernel_rfl) (by kernel_rfl) h
  have hc : ∀ i, i < 32 → W.cell? ⟨0, i, none⟩ = some (.int .u8 (Lib.deBruijn32tab.getD i 0 : Int)) := by
    intro i hi
    have := hT.cell gTab i (by simpa [Lib.deBruijn32tab] using hi)
    rw [this]
    simp [List.getD_eq_getElem?_getD, List.getElem?_eq_getElem (show i < Lib.deBruijn32tab.length by simpa [Lib.deBruijn32tab] using hi)]
  refine ⟨fun i hi => hc i (by simpa [Lib.deBruijn32tab] using hi), ?_⟩
  have := hc 0 (by omega)
  exact block_lt_of_cell (a := ⟨0, 0, none⟩) this

/-- The door's own heap meets the condition. -/
theorem door_met (os : Os) (args : Array Value) : laidMetH Tryd.prog [("math/bits.deBruijn32tab", Rows.laid_math_bits_deBruijn32tab)] ((World.doorLaid Tryd.prog 400 os).forCall (fun _ _ => 0) ⟨#[], args, []⟩).memory :=
  laidMetH_of_parts3 (fuel := 8) (laidMet_of_run' 8 (by kernel_rfl) (by kernel_rfl)) (by kernel_rfl) (by kernel_rfl)
end Go.Proofs.YtfmpppdcbeadnaaDoor
