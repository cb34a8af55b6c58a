/- A table's All: the closure that goes over it. -/
import Derived.Test.YtdmmceclohkkdaaTabGI
import Derived.Test.YtdmmceclohkkdaaTabNil
import Derived.Test.YtdmmceclohkkdaaRange2
namespace Go.Proofs.Ytdmmceclohkkdaa
open Go.RowKit Go.Sort
set_option maxHeartbeats 4000000
set_option maxRecDepth 100000
theorem tall_any (u : Value) (hu : u = .pointer none ∨ ∃ b, u = .pointer (some ⟨b, 0, none⟩)) (w : World) : Calls Try.prog 22 #[u] w (fun e w' => e = .returned (.func (.func 67) #[] #[.pointer (some ⟨w.heap.size, 0, none⟩)]) ∧ Grows w w' ∧ w'.cell? ⟨w.heap.size, 0, none⟩ = some u) := by
  rcases hu with rfl | ⟨b, rfl⟩
  all_goals (
    go_enter Try.func22, Try.ntmps22
    go_wp2
    go_ret
    refine ⟨rfl, by show Below w.heap.size w _; (repeat (first | with_reducible exact Below.refl _ _ | with_reducible refine bl_alloc ?_ _ | ((with_reducible refine bl_set ?_ ?_ _); rotate_left; (first | exact Nat.le_refl _ | exact Nat.le_succ_of_le (Nat.le_refl _) | (simp only []; omega))) | with_reducible refine bl_drewN ?_ _ | with_reducible refine bl_drew ?_ | with_reducible refine bl_reg ?_ _)), ?_⟩
    simp [go_sem])
section
attribute [local go_sem] Oper.semAt_some
theorem tall_nil_tells (w : World) {α : Type} (enc : α → Array Value) (I : List α → World → Prop) (G : List α → α → World → Prop) {c : Nat} (hI : ∀ s A, I s A → A.cell? ⟨c, 0, none⟩ = some (.pointer none)) :
    Tells2 Try.prog 67 #[.pointer (some ⟨c, 0, none⟩)] enc I G (fun xs => xs = []) w := by
  intro l J Jx W hg hJI hJ hJx hY h0
  have hc := hI _ _ (hJI _ _ h0)
  have H0 := Lib.hid h0
  clear hY hJ hJx hJI hI
  refine callsIn_of_wp Try.func67 rfl trivial ?_ rfl
  simp only [Try.ntmps67, List.size_toArray, List.length_cons, List.length_nil, Nat.reduceAdd, Nat.reduceSub, Array.replicate_succ, Array.replicate_zero, List.push_toArray, List.append_toArray, List.nil_append, List.cons_append]
  gi_wp2_with fail
  refine bodyPost_ret (v := .tuple #[]) (by simp [results, Try.results67, go_sem]) rfl ?_
  exact ⟨⟨_, rfl⟩, .inl ⟨[], rfl, H0.out⟩⟩
end
end Go.Proofs.Ytdmmceclohkkdaa
