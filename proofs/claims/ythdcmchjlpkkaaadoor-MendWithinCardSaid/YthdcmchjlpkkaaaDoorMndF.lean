/- Drawn regions that make one box and fill it: how far they have come. -/
import Derived.Test.YthdcmchjlpkkaaaDoorMndE
import Derived.Test.YthdcmchjlpkkaaaDoorFlagG
import Derived.Deep.OwnRows
namespace Go.Proofs.YthdcmchjlpkkaaaDoor.Tr
open Go.RowKit Go.Sort
set_option maxHeartbeats 4000000
set_option maxRecDepth 100000
/-- A region whose operation ia makes a box (its address in slot d) and whose operation js fills it; all others leave the world alone. -/
def AJ (wd : World) (ia js d : Nat) (z x : Value) (T : TypeId) (fl : Nat → Bool) (vals : Nat → Value) (w : World) : Prop :=
  (fl ia = false ∧ fl js = false ∧ w = wd) ∨ (fl ia = true ∧ fl js = false ∧ w = wd.alloc (.cells #[z] T) ∧ vals d = .pointer (some ⟨wd.heap.size, 0, none⟩)) ∨
  (fl ia = true ∧ fl js = true ∧ w = (wd.alloc (.cells #[z] T)).setCell ⟨wd.heap.size, 0, none⟩ x ∧ vals d = .pointer (some ⟨wd.heap.size, 0, none⟩))
section
variable {wd w w' : World} {ia js d : Nat} {z x : Value} {T : TypeId} {fl : Nat → Bool} {vals : Nat → Value}
theorem AJ.s {i e : Nat} {y : Value} (h : AJ wd ia js d z x T fl vals w) (h1 : i ≠ ia := by decide) (h2 : i ≠ js := by decide) (h3 : e ≠ d := by decide) : AJ wd ia js d z x T (uF i fl) (uV (some e) y vals) w := by
  have e1 : uF i fl ia = fl ia := by simp [uF]; intro h; exact absurd h.symm h1
  have e2 : uF i fl js = fl js := by simp [uF]; intro h; exact absurd h.symm h2
  have e3 : uV (some e) y vals d = vals d := by simp [uV, h3]
  unfold AJ
  rw [e1, e2, e3]
  exact h
theorem AJ.grows (h : AJ wd ia js d z x T fl vals w) : Grows wd w := by
  have hg : Grows wd (wd.alloc (.cells #[z] T)) := bl_alloc (Below.refl _ _) _
  rcases h with ⟨_, _, rfl⟩ | ⟨_, _, rfl, _⟩ | ⟨_, _, rfl, _⟩
  · exact Below.refl _ _
  · exact hg
  · exact grows_chg hg (Chg.setCell (S := fun j => j = wd.heap.size) (Chg.refl _ _) _ (.inr rfl)) (fun j hj => by rw [hj]; exact Nat.le_refl _)
theorem AJ.make (h : AJ wd ia js d z x T fl vals w) (h0 : fl ia = false) (hne : js ≠ ia := by decide) : AJ wd ia js d z x T (uF ia fl) (uV (some d) (.pointer (some ⟨w.heap.size, 0, none⟩)) vals) (w.alloc (.cells #[z] T)) := by
  rcases h with ⟨_, h2, rfl⟩ | ⟨h1, _⟩ | ⟨h1, _⟩
  · exact .inr (.inl ⟨by simp [uF], by simp [uF, h2, hne], rfl, by simp [uV]⟩)
  · rw [h0] at h1; cases h1
  · rw [h0] at h1; cases h1
theorem AJ.fill {u : Value} (h : AJ wd ia js d z x T fl vals w) (h0 : fl js = false) (h1 : fl ia = true) : w.heap[wd.heap.size]? = some (.cells #[z] T (0, 0)) ∧ vals d = .pointer (some ⟨wd.heap.size, 0, none⟩) ∧ AJ wd ia js d z x T (uF js fl) (uV none u vals) (w.setCell ⟨wd.heap.size, 0, none⟩ x) ∧ Chg (fun j => wd.heap.size ≤ j) w (w.setCell ⟨wd.heap.size, 0, none⟩ x) := by
  rcases h with ⟨h2, _⟩ | ⟨h2, h3, rfl, h5⟩ | ⟨_, h2, _⟩
  · rw [h1] at h2; cases h2
  · refine ⟨heap_alloc_new wd _, h5, .inr (.inr ⟨by simp [uF, h1], by simp [uF], rfl, by simp [uV, h5]⟩), (Chg.setCell (S := fun j => j = wd.heap.size) (Chg.refl _ _) _ (.inr rfl)).mono fun j _ hj => by rw [hj]; exact Nat.le_refl _⟩
  · rw [h0] at h2; cases h2
theorem AJ.done (h : AJ wd ia js d z x T fl vals w) (h0 : fl js = true) : w.heap[wd.heap.size]? = some (.cells #[x] T (0, 0)) ∧ vals d = .pointer (some ⟨wd.heap.size, 0, none⟩) := by
  rcases h with ⟨_, h2, _⟩ | ⟨_, h2, _⟩ | ⟨_, _, rfl, h5⟩
  · rw [h0] at h2; cases h2
  · rw [h0] at h2; cases h2
  · exact ⟨box_setj (j := 0) (heap_alloc_new wd _), h5⟩
end
theorem make_row (n : Nat) (hn : n ≤ 1000) (w : World) : (Instr.makeSlice 27 (.int .i64 (n : Int)) (.int .i64 (n : Int))).run Tryd.prog w = .ok (.slice (some ⟨w.heap.size, 0, none⟩) n n) (w.alloc (.cells (madeCells #[.int .i64 0] n) 2)) :=
  run_make_row' 27 2 (.int .i64 0) 8 Tryd.underlying27 Tryd.infoI64 rfl .i64 .i64 n (by omega) (by omega) w
end Go.Proofs.YthdcmchjlpkkaaaDoor.Tr
