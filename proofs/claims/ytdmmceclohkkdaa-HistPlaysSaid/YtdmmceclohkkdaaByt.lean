/- Bytes: what a slice of them holds; slices.Clone of one. -/
import Derived.Test.YtdmmceclohkkdaaRows2
import Derived.Test.YtdmmceclohkkdaaMisc
import Derived.Laws.BytesArg
import Derived.ArgAppend
import Derived.Lib.LazyBuf
namespace Go.Proofs.Ytdmmceclohkkdaa
open Go.RowKit Go.Sort
set_option maxHeartbeats 1000000
set_option maxRecDepth 100000
theorem Try.infoU8 : (Try.prog.info? 5).map (fun i => (i.zero, i.size, i.bytes)) = some (some (.int .u8 0), 1, 1) := by kernel_rfl

abbrev bsv (b : List Int) : List Value := b.map (Value.int .u8)
theorem bsv_one (b : List Int) : ∀ u ∈ bsv b, u.oneCell' = true := by
  intro u hu
  simp at hu
  obtain ⟨x, _, rfl⟩ := hu
  rfl
/-- The slice of bytes holds b. -/
def BHas (w : World) (ba : Option Addr) (bl bc : Nat) (b : List Int) : Prop := b.length = bl ∧ (bl = 0 ∨ ∃ g o, ba = some ⟨g, o, none⟩ ∧ bl ≤ bc ∧ g < w.heap.size ∧ ∀ i, (h : i < b.length) → w.cell? ⟨g, o + i, none⟩ = some (.int .u8 b[i]))
theorem BHas.grows {w w' : World} {ba : Option Addr} {bl bc : Nat} {b : List Int} (h : BHas w ba bl bc b) (hg : Grows w w') : BHas w' ba bl bc b := by
  refine ⟨h.1, ?_⟩
  rcases h.2 with h | ⟨g, o, h1, h0, h2, h3⟩
  · exact .inl h
  · exact .inr ⟨g, o, h1, h0, Nat.lt_of_lt_of_le h2 hg.size, fun i hi => (hg.cell (p := ⟨g, o + i, none⟩) h2).trans (h3 i hi)⟩
/-- .. in a row of its own. -/
abbrev BRow (w : World) (base : Nat) (v : Value) (b : List Int) : Prop := w.ownsRow base 5 1 v b.length (bsv b)
theorem brow_form {w : World} {base : Nat} {v : Value} {b : List Int} (h : BRow w base v b) : ∃ ba bl bc, v = .slice ba bl bc ∧ BHas w ba bl bc b := by
  rcases h.2 with ⟨h1, h2⟩ | ⟨g, cap, cur, hv, hb, hg, h4, _⟩
  · exact ⟨none, 0, 0, h1, h2, .inl rfl⟩
  · refine ⟨_, _, _, hv, rfl, .inr ⟨g, 0, rfl, h4, (Array.getElem?_eq_some_iff.1 hg).1, fun i hi => ?_⟩⟩
    subst hv
    rw [Nat.zero_add, h.cellAt i (by omega)]
    simp [hi]
theorem conv_bytes {w : World} {ba : Option Addr} {bl bc : Nat} {b : List Int} (h : BHas w ba bl bc b) : (convert 74 9 (.slice ba bl bc)).run Try.prog w = .ok (.string (strOfNums b)) w := by
  obtain ⟨h1, h2⟩ := h
  rcases h2 with h2 | ⟨g, o, rfl, -, hg, hc⟩
  · obtain rfl : b = [] := List.eq_nil_of_length_eq_zero (by omega)
    subst h2
    cases ba with
    | none => exact run_convert_bytes_nil w _ _ Try.underlying74 Try.underlying5 0 bc _ Try.underlying9
    | some a =>
      rw [run_convert_bytes_string w _ _ _ _ 0 bc Try.underlying74 Try.underlying5 Try.underlying9]
      have := run_bytesToString (P := Try.prog) w a 0 bc [] (by simp [loadCells, Sem.run_pure, loadCellsFrom])
      rw [this]
      rfl
  · exact run_convert_bytes_arg w _ _ Try.underlying74 Try.underlying5 g o bl bc b h1 (fun i hi => by
      rw [hc i (by omega), List.getD_eq_getElem?_getD, List.getElem?_eq_getElem (by omega)]
      rfl) _ Try.underlying9

/-- Are two bodies the same? -/
def sameB (b c : List Int) : Bool := (strOfNums b).toList == (strOfNums c).toList
theorem sameB_refl (b : List Int) : sameB b b = true := by unfold sameB; simp
theorem bclone_any (ba : Option Addr) (bl bc : Nat) (b : List Int) (w : World) (h : BHas w ba bl bc b) (hm : bl ≤ 1000000) :
    Calls Try.prog 77 #[.slice ba bl bc] w (fun e w' => ∃ v', e = .returned v' ∧ Grows w w' ∧ BRow w' w.heap.size v' b) := by
  obtain ⟨i0, hi, hz0, hz1, hz2⟩ := info_parts Try.infoU8
  have he := run_eql_slice_nil (P := Try.prog) w 74 5 ba bl bc Try.underlying74
  cases ba with
  | none =>
    have hb : b = [] := by
      rcases h.2 with h2 | ⟨g, o, h2, _⟩
      · exact List.eq_nil_of_length_eq_zero (by rw [h.1]; exact h2)
      · cases h2
    subst hb
    clear h
    go_enter Try.func77, Try.ntmps77
    go_wp2
    go_ret
    exact ⟨_, rfl, Below.refl _ _, World.ownsRow_nil _ _ _ _⟩
  | some a =>
    have hc : ∀ j u, (bsv b)[j]? = some u → w.cell? (a.add j) = some u ∧ a.block < w.heap.size := by
      intro j u hu
      rcases h.2 with h2 | ⟨g, o, h2, h3, h4, h5⟩
      · have hb : b = [] := List.eq_nil_of_length_eq_zero (by rw [h.1]; exact h2)
        subst hb
        simp at hu
      · cases h2
        have hj : j < b.length := by
          have := (List.getElem?_eq_some_iff.1 hu).1
          simpa using this
        rw [addr_add, h5 j hj, ← hu]
        simp [hj]
        exact h4
    have HC := Lib.hid hc
    have HL := Lib.hid h.1
    clear h hc
    go_enter Try.func77, Try.ntmps77
    go_wp2_with (first | (at_builtin; refine wpList_append_own _ rfl _ _ 74 rfl w.heap.size 5 i0 _ 1 1 Try.underlying74 hi hz0 hz1 hz2 rfl (by decide) _ 0 [] rfl ?c0 a bl bc (bsv b) rfl ?c1 ?c2 ?c3 ?c4 ?c5 ?c6 ?_))
    case c0 => exact World.ownsRow_lit w #[] 0 (Nat.le_refl _) (by decide) rfl
    case c1 => simp [HL.out]
    case c2 =>
      intro j u hu
      obtain ⟨h1, h2⟩ := HC.out j u hu
      exact ((bl_alloc (Below.refl _ _) _ : Below w.heap.size w _).cell (p := a.add j) (by rw [show (a.add j).block = a.block by unfold Addr.add; split <;> rfl]; exact h2)).trans h1
    case c3 => exact bsv_one b
    case c4 => unfold maxLen; omega
    case c5 => omega
    case c6 => simp
    intro v' w1 hown hgrow _
    have hg2 : Grows w w1 := grows_of_grownBy (bl_alloc (Below.refl _ _) _) hgrow (by rintro k hk; cases hk; exact Nat.le_refl _)
    have ho : BRow w1 w.heap.size v' b := by
      show World.ownsRow _ _ _ _ _ _ _
      rw [HL.out]
      simpa using hown
    have HO := Lib.hid ho
    clear hown hgrow ho
    go_wp2_with fail
    go_ret
    exact ⟨v', rfl, hg2, HO.out⟩

end Go.Proofs.Ytdmmceclohkkdaa
