/- The chapter's example. -/
import Derived.Test.YtihfcaconbcdjaaTrimI
namespace Go.Proofs.Ytihfcaconbcdjaa
open Go.RowKit Go.Sort
set_option maxHeartbeats 1000000
set_option maxRecDepth 100000

theorem ex_sort : sortI [5, -100, 7, 6] = [-100, 5, 6, 7] := by rw [← insAll_eq]; decide
theorem ex_trim : trimI 1 [5, -100, 7, 6] = [5, 6] := by
  unfold trimI
  rw [ex_sort]
  decide
theorem ihas_lit (w : World) (T : TypeId) : IHas (w.alloc (.cells #[.int .i64 5, .int .i64 (-100), .int .i64 7, .int .i64 6] T)) (.slice (some ⟨w.heap.size, 0, none⟩) 4 4) [5, -100, 7, 6] := by
  have hb : (w.alloc (.cells #[.int .i64 5, .int .i64 (-100), .int .i64 7, .int .i64 6] T)).heap[w.heap.size]? = some (.cells #[.int .i64 5, .int .i64 (-100), .int .i64 7, .int .i64 6] T) := heap_alloc_new w _
  refine .inr ⟨w.heap.size, 0, 4, rfl, Nat.le_refl _, (Array.getElem?_eq_some_iff.1 hb).1, fun i hi => ?_⟩
  unfold World.cell?
  rw [hb]
  match i, hi with
  | 0, _ => rfl
  | 1, _ => rfl
  | 2, _ => rfl
  | 3, _ => rfl
theorem IHas.cell {w : World} {g o n cap : Nat} {l : List Int} (h : IHas w (.slice (some ⟨g, o, none⟩) n cap) l) (i : Nat) (hi : i < l.length) : w.cell? ⟨g, o + i, none⟩ = some (.int .i64 l[i]) := by
  rcases h with ⟨rfl, _⟩ | ⟨g', o', cap', he, h4, hg, hc⟩
  · simp at hi
  · simp only [Value.slice.injEq, Option.some.injEq, Addr.mk.injEq] at he
    obtain ⟨⟨rfl, rfl, _⟩, _, rfl⟩ := he
    exact hc i hi
theorem trimWorks_any (w : World) : Calls Try.prog 19 #[] w (RetV w (.bool true)) := by
  have ht := fun (T : TypeId) (W : World) => trim_any 1 _ _ _ (ihas_lit W T) (by decide) (by decide)
  have hm := fun (T : TypeId) (W : World) => middle_any 1 _ _ _ (ihas_lit W T) (by decide) (by intro x hx; simp at hx; rcases hx with rfl | rfl | rfl | rfl <;> decide) (by decide)
  rw [ex_trim] at ht hm
  rw [show midI [5, 6] = 5 by decide, show decide (0 < ([5, -100, 7, 6] : List Int).length) = true by decide] at hm
  have hf := fun W => fault_any 4 3 W (by decide) (by decide)
  rw [show faultI 4 3 = 1 by decide] at hf
  have HT := Lib.hid ht
  have HM := Lib.hid hm
  have HF := Lib.hid hf
  clear ht hm hf
  go_enter Try.func19, Try.ntmps19
  go_wp2_with (first | (go_at_call 17; refine (HT.out 2 _).mono ?_; rintro e w1 ⟨v1, rfl, hG1, hO1⟩; have HG1 := Lib.hid hG1; have HO1 := Lib.hid hO1; obtain ⟨g, o, cap, rfl, hcap, hgw⟩ := hO1.form (n := 2) rfl (by decide); clear hO1 hG1) | (go_at_call 22; refine (HM.out 2 _).mono ?_; rintro e w2 ⟨rfl, hG2⟩; have HG2 := Lib.hid hG2; (have hO2 := (HO1.out.grows (bl_alloc (Below.refl _ _) _)).grows hG2); have hc0 := hO2.cell 0 (by decide); have hc1 := hO2.cell 1 (by decide); simp only [Nat.add_zero, List.getElem_cons_zero, List.getElem_cons_succ] at hc0 hc1; clear hO2; clear hG2) | (go_at_call 20; refine (HF.out _).mono ?_; rintro e w3 ⟨rfl, rfl⟩))
  go_ret
  exact ⟨rfl, grows_trans _ _ _ (grows_trans _ _ _ (bl_alloc (Below.refl _ _) _) HG1.out) (grows_trans _ _ _ (bl_alloc (Below.refl _ _) _) HG2.out)⟩
end Go.Proofs.Ytihfcaconbcdjaa
