/- A table's New and Put, at rows of int64. -/
import Derived.Test.YtdmmceclohkkdaaTabAI
import Derived.Test.YtdmmceclohkkdaaTabP
import Derived.Test.YtdmmceclohkkdaaStep
import Derived.Carry
namespace Go.Proofs.Ytdmmceclohkkdaa
open Go.RowKit Go.Sort
set_option maxHeartbeats 4000000
set_option maxRecDepth 100000
/-- How many rows there may be, of those asked for. -/
def mostOfI (n : Int) : Nat := (min (max n 0) 65536).toNat
theorem tnewI (n : Int) (w : World) : Calls Try.prog 15 #[.int .i64 n] w (fun e w' => e = .returned (.pointer (some ⟨w.heap.size + 1, 0, none⟩)) ∧ Grows w w' ∧ TabAt TTI w' w.heap.size (w.heap.size + 1) (.slice none 0 0) w.heap.size [] (mostOfI n)) := by
  obtain ⟨k, ek⟩ : ∃ k, mostOfI n = k := ⟨_, rfl⟩
  have hk : k ≤ 65536 := by rw [← ek]; unfold mostOfI; omega
  have hend : ∀ w', w' = (w.alloc (.map #[] 0)).alloc (.cells #[.slice none 0 0, .map (some w.heap.size), .int .i64 (k : Int)] TTI) → Grows w w' ∧ TabAt TTI w' w.heap.size (w.heap.size + 1) (.slice none 0 0) w.heap.size [] k := by
    rintro w' rfl
    have hg : Grows w ((w.alloc (.map #[] 0)).alloc (.cells #[.slice none 0 0, .map (some w.heap.size), .int .i64 (k : Int)] TTI)) := bl_alloc (bl_alloc (Below.refl _ _) _) _
    exact ⟨hg, (two_new w _ _).2, World.ownsRow_nil _ _ _ _, (MapAt.made w).grows (bl_alloc (Below.refl _ _) _), Nat.le_succ _, Nat.le_refl _, Nat.zero_le _, hk, List.Pairwise.nil⟩
  have HE := Lib.hid hend
  rw [ek]
  clear hend hk
  have h3 : (n < 0 ∧ k = 0) ∨ (0 ≤ n ∧ n ≤ 65536 ∧ n = (k : Int)) ∨ (65536 < n ∧ k = 65536) := by rw [← ek]; unfold mostOfI; omega
  clear ek
  have hmm := @run_makeMap Try.prog
  rcases h3 with ⟨h1, rfl⟩ | ⟨h1, h2, rfl⟩ | ⟨h1, rfl⟩
  · go_enter Try.func15, Try.ntmps15
    go_wp2
    go_ret
    exact ⟨rfl, HE.out _ rfl⟩
  · go_enter Try.func15, Try.ntmps15
    go_wp2
    all_goals (go_ret; exact ⟨rfl, HE.out _ rfl⟩)
  · go_enter Try.func15, Try.ntmps15
    go_wp2
    go_ret
    exact ⟨rfl, HE.out _ rfl⟩
theorem tput_noI {w : World} {base tb mb : Nat} {kv : Value} {m : List (KW × Value)} {most : Nat} (k : KW) (v : Value) (h : TabAt TTI w base tb kv mb m most) (hE : putE m most k ≠ 0) :
    Calls Try.prog 16 #[.pointer (some ⟨tb, 0, none⟩), k.val, v] w (TabTo TTI w base tb kv mb m most (.int .i64 (putE m most k))) := by
  obtain ⟨b, eb⟩ : ∃ b, (getK m k).isSome = b := ⟨_, rfl⟩
  obtain ⟨z, ez⟩ : ∃ z, (getK m k).getD (.int .i64 0) = z := ⟨_, rfl⟩
  have hor : (b = true ∧ putE m most k = 12) ∨ (b = false ∧ most ≤ m.length ∧ putE m most k = 13) := by
    unfold putE at hE ⊢
    rw [← eb]
    cases hg : getK m k with
    | none =>
      rw [hg] at hE
      by_cases hm : most ≤ m.length
      · exact .inr ⟨rfl, hm, by simp [hm]⟩
      · simp [hm] at hE
    | some u => exact .inl ⟨rfl, by simp⟩
  have hend : ∀ w', Grows w w' → TabTo TTI w base tb kv mb m most (.int .i64 (putE m most k)) (.returned (.int .i64 (putE m most k))) w' := fun w' hg => TabTo.same h hg
  have HE := Lib.hid hend
  obtain ⟨q, eq⟩ : ∃ q, putE m most k = q := ⟨_, rfl⟩
  rw [eq] at hor HE ⊢
  have hgb : Grows w (w.alloc (.cells #[.int .i64 k.t, .int .i64 k.f, .int .u32 k.s] 29)) := bl_alloc (Below.refl _ _) _
  have hbx := heap_alloc_new w (.cells #[.int .i64 k.t, .int .i64 k.f, .int .u32 k.s] 29)
  obtain ⟨W, eW⟩ : ∃ W, w.alloc (.cells #[.int .i64 k.t, .int .i64 k.f, .int .u32 k.s] 29) = W := ⟨_, rfl⟩
  rw [eW] at hgb hbx
  have hW := h.grows hgb
  have hl : ∀ p, (Instr.lookup 105 (.map (some mb)) k.val true).run Try.prog (reg W p) = .ok (.tuple #[z, .bool b]) (reg W p) := fun p => by
    have := (hW.map.grows (below_reg W p)).look Try.underlying105 (zeroI _) k true
    rw [this, ez, eb]
    rfl
  obtain ⟨a, cap, rfl⟩ := h.len
  obtain ⟨n, en⟩ : ∃ n, m.length = n := ⟨_, rfl⟩
  obtain ⟨c0, -⟩ := cell_in hW.ob 0 rfl
  obtain ⟨c1, -⟩ := cell_in hW.ob 1 rfl
  obtain ⟨c2, -⟩ := cell_in hW.ob 2 rfl
  rw [en] at c0 hor
  obtain ⟨t0, -⟩ := cell_in hbx 0 rfl
  obtain ⟨t1, -⟩ := cell_in hbx 1 rfl
  obtain ⟨t2, -⟩ := cell_in hbx 2 rfl
  have z1 := hW.lt
  have z2 := box_lt hbx
  have HG := Lib.hid hgb
  clear hend hgb hbx h hE eb hW en eq ez
  rcases hor with ⟨rfl, rfl⟩ | ⟨rfl, hm, rfl⟩
  · go_enter Try.func16, Try.ntmps16
    go_wp2_with fail
    refine wp_region_reg (by kernel_rfl) (by kernel_rfl) ?_
    repeat (first | go_big_quiet_step ((fail)) | quiet_step ((fail)))
    refine wpQuiet_nil ?_
    intro _ hcw1
    obtain ⟨pq, hcw2⟩ := hcw1
    subst hcw2
    go_wp2_with fail
    go_ret
    exact HE.out _ (grows_trans _ _ _ HG.out (below_reg _ _))
  · have hd : decide ((n : Int) ≥ (most : Int)) = true := decide_eq_true (by omega)
    have hd2 : (most ≤ n) = True := eq_true hm
    clear hm
    go_enter Try.func16, Try.ntmps16
    go_wp2_with fail
    refine wp_region_reg (by kernel_rfl) (by kernel_rfl) ?_
    repeat (first | go_big_quiet_step ((fail)) | quiet_step ((fail)))
    refine wpQuiet_nil ?_
    intro _ hcw1
    obtain ⟨pq, hcw2⟩ := hcw1
    subst hcw2
    go_wp2_with fail
    refine wp_region_reg (by kernel_rfl) (by kernel_rfl) ?_
    repeat (first | go_big_quiet_step ((fail)) | quiet_step ((fail)))
    refine wpQuiet_nil ?_
    intro _ hcw1
    obtain ⟨pq, hcw2⟩ := hcw1
    subst hcw2
    go_wp2_with fail
    go_ret
    exact HE.out _ (grows_trans _ _ _ HG.out (grows_trans _ _ _ (below_reg _ _) (below_reg _ _)))
end Go.Proofs.Ytdmmceclohkkdaa
