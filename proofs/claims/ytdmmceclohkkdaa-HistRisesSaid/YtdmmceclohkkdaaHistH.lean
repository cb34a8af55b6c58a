/- HistOwn: the walk. -/
import Derived.Test.YtdmmceclohkkdaaHistF
import Derived.Test.YtdmmceclohkkdaaDocAt
namespace Go.Proofs.Ytdmmceclohkkdaa
open Go.RowKit Go.Sort
set_option maxHeartbeats 4000000
set_option maxRecDepth 100000
theorem bsv_append (a b : List Int) : bsv a ++ bsv b = bsv (a ++ b) := by simp
/-- Bytes appended to bytes of one's own. -/
theorem bapp_run {W : World} {base : Nat} {v : Value} {l m : List Int} {a : Option Addr} {n c : Nat} (ho : BRow W base v l) (hs : BHas W a n c m) (ha : a = none → c = 0) (hm : l.length + m.length ≤ 1000000) (hb : base ≤ W.heap.size) :
    ∃ v' W', (∀ ty, (Builtin.append_ #[74, 74] ty #[v, .slice a n c]).run Try.prog W = .ok v' W') ∧ BRow W' base v' (l ++ m) ∧ W.grownBy W' v.ownBlock := by
  obtain ⟨i0, hi, hz0, hz1, hz2⟩ := info_parts Try.infoU8
  obtain ⟨hl, hc⟩ := hs
  cases a with
  | none =>
    have hm0 : m = [] := by
      rcases hc with h2 | ⟨g, o, h2, _⟩
      · exact List.eq_nil_of_length_eq_zero (by rw [hl]; exact h2)
      · cases h2
    subst hm0
    obtain rfl := ha rfl
    obtain rfl : n = 0 := hl.symm
    refine ⟨v, W, fun ty => run_append_owned_none W base _ ty 5 i0 1 Try.underlying74 hi v l.length (bsv l) ho, by simpa using ho, ?_⟩
    exact ⟨rfl, rfl, rfl, Nat.le_refl _, fun _ _ _ => rfl⟩
  | some a =>
    have hcells : ∀ j u, (bsv m)[j]? = some u → W.cell? (a.add j) = some u := by
      intro j u hu
      rcases hc with h2 | ⟨g, o, h2, h3, h4, h5⟩
      · have hb : m = [] := List.eq_nil_of_length_eq_zero (by rw [hl]; exact h2)
        subst hb
        simp at hu
      · cases h2
        have hj : j < m.length := by
          have := (List.getElem?_eq_some_iff.1 hu).1
          simpa using this
        rw [addr_add, h5 j hj, ← hu]
        simp [hj]
    obtain ⟨v', W', h1, h2, h3, -⟩ := run_append_own (P := Try.prog) W base 74 0 5 i0 _ 1 1 Try.underlying74 hi hz0 hz1 hz2 rfl (by decide) v l.length (bsv l) ho a n c (bsv m) (by simp [hl]) hcells (bsv_one m)
      (by unfold maxLen; omega) (by omega) hb
    refine ⟨v', W', fun _ => h1, ?_, h3⟩
    show W'.ownsRow base _ 1 v' (l ++ m).length (bsv (l ++ m))
    rw [← bsv_append, List.length_append, hl]
    exact h2
section
variable {w : World} {base hb tb mb wb most : Nat} {kv : Value} {dl : Int} {last : KW} {sm : Bool} {l : List HW} {g : Int × Int → Int}
/-- What lies lower is changed. -/
theorem HistAt.low {w' : World} (h : HistAt w base hb tb kv mb wb most dl last sm l g) (hc : Chg (fun j => j < base) w w') : HistAt w' base hb tb kv mb wb most dl last sm l g :=
  ⟨box_chg h.ob hc (by have := h.bh; omega), h.tab.chg hc (by have := h.tab.bt; omega) (by have := h.tab.bm; omega) (fun j hj hs => by have := (h.tab.own.lt j hj).1; omega), h.mine.chg hc (by have := h.bw; omega), fun u hu => hc.own (h.bod u hu) (fun j hj hs => by have := ((h.bod u hu).lt j hj).1; omega), h.bh, h.bw, h.wm, h.d0, h.d1⟩
end
end Go.Proofs.Ytdmmceclohkkdaa
