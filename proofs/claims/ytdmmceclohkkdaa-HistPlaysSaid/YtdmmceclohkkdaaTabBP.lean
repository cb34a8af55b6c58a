/- A table's New and Put, at rows of api.Packet. -/
import Derived.Test.YtdmmceclohkkdaaTabAP
import Derived.Test.YtdmmceclohkkdaaTabP
import Derived.Test.YtdmmceclohkkdaaStep
import Derived.Carry
namespace Go.Proofs.Ytdmmceclohkkdaa
open Go.RowKit Go.Sort
set_option maxHeartbeats 4000000
set_option maxRecDepth 100000
/-- How many rows there may be, of those asked for. -/
def mostOfP (n : Int) : Nat := (min (max n 0) 65536).toNat
theorem tnewP (n : Int) (w : World) : Calls Try.prog 74 #[.int .i64 n] w (fun e w' => e = .returned (.pointer (some ⟨w.heap.size + 1, 0, none⟩)) ∧ Grows w w' ∧ TabAt TTP w' w.heap.size (w.heap.size + 1) (.slice none 0 0) w.heap.size [] (mostOfP n)) := by
  obtain ⟨k, ek⟩ : ∃ k, mostOfP n = k := ⟨_, rfl⟩
  have hk : k ≤ 65536 := by rw [← ek]; unfold mostOfP; omega
  have hend : ∀ w', w' = (w.alloc (.map #[] 0)).alloc (.cells #[.slice none 0 0, .map (some w.heap.size), .int .i64 (k : Int)] TTP) → Grows w w' ∧ TabAt TTP w' w.heap.size (w.heap.size + 1) (.slice none 0 0) w.heap.size [] k := by
    rintro w' rfl
    have hg : Grows w ((w.alloc (.map #[] 0)).alloc (.cells #[.slice none 0 0, .map (some w.heap.size), .int .i64 (k : Int)] TTP)) := bl_alloc (bl_alloc (Below.refl _ _) _) _
    exact ⟨hg, (two_new w _ _).2, World.ownsRow_nil _ _ _ _, (MapAt.made w).grows (bl_alloc (Below.refl _ _) _), Nat.le_succ _, Nat.le_refl _, Nat.zero_le _, hk, List.Pairwise.nil⟩
  have HE := Lib.hid hend
  rw [ek]
  clear hend hk
  have h3 : (n < 0 ∧ k = 0) ∨ (0 ≤ n ∧ n ≤ 65536 ∧ n = (k : Int)) ∨ (65536 < n ∧ k = 65536) := by rw [← ek]; unfold mostOfP; omega
  clear ek
  have hmm := @run_makeMap Try.prog
  rcases h3 with ⟨h1, rfl⟩ | ⟨h1, h2, rfl⟩ | ⟨h1, rfl⟩
  · go_enter Try.func74, Try.ntmps74
    go_wp2
    go_ret
    exact ⟨rfl, HE.out _ rfl⟩
  · go_enter Try.func74, Try.ntmps74
    go_wp2
    all_goals (go_ret; exact ⟨rfl, HE.out _ rfl⟩)
  · go_enter Try.func74, Try.ntmps74
    go_wp2
    go_ret
    exact ⟨rfl, HE.out _ rfl⟩
theorem tput_noP {w : World} {base tb mb : Nat} {kv : Value} {m : List (KW × Value)} {most : Nat} (k : KW) (x : PW) (h : TabAt TTP w base tb kv mb m most) (hv : PRows m) (hE : putE m most k ≠ 0) :
    Calls Try.prog 78 #[.pointer (some ⟨tb, 0, none⟩), k.val, x.val] w (TabTo TTP w base tb kv mb m most (.int .i64 (putE m most k))) := by
  obtain ⟨b, eb⟩ : ∃ b, (getK m k).isSome = b := ⟨_, rfl⟩
  obtain ⟨z, ez⟩ : ∃ z : PW, (getK m k).getD PZ = z.val := getK_pw hv k
  have hor : (b = true ∧ putE m most k = 12) ∨ (b = false ∧ most ≤ m.length ∧ putE m most k = 13) := by
    unfold putE at hE ⊢
    rw [← eb]
    cases hg : getK m k with
    | none =>
      rw [hg] at hE
      by_cases hm : most ≤ m.length
      · exact .inr ⟨rfl, hm, by simp [hm]⟩
      · simp [hm] at hE
    | some u => exact .inl ⟨rfl, by simp⟩
  have hend : ∀ w', Grows w w' → TabTo TTP w base tb kv mb m most (.int .i64 (putE m most k)) (.returned (.int .i64 (putE m most k))) w' := fun w' hg => TabTo.same h hg
  have HE := Lib.hid hend
  obtain ⟨q, eq⟩ : ∃ q, putE m most k = q := ⟨_, rfl⟩
  rw [eq] at hor HE ⊢
  have hgb : Grows w ((w.alloc (.cells #[.int .i64 k.t, .int .i64 k.f, .int .u32 k.s] 29)).alloc (.cells x.cells TPK)) := bl_alloc (bl_alloc (Below.refl _ _) _) _
  obtain ⟨hbx, hbv⟩ := two_new w (.cells #[.int .i64 k.t, .int .i64 k.f, .int .u32 k.s] 29) (.cells x.cells TPK)
  obtain ⟨W, eW⟩ : ∃ W, (w.alloc (.cells #[.int .i64 k.t, .int .i64 k.f, .int .u32 k.s] 29)).alloc (.cells x.cells TPK) = W := ⟨_, rfl⟩
  rw [eW] at hgb hbx hbv
  have hW := h.grows hgb
  have hl : ∀ p, (Instr.lookup 144 (.map (some mb)) k.val true).run Try.prog (reg W p) = .ok (.tuple #[z.val, .bool b]) (reg W p) := fun p => by
    have := (hW.map.grows (below_reg W p)).look Try.underlying144 (zeroP _) k true
    rw [this, ez, eb]
    rfl
  obtain ⟨a, cap, rfl⟩ := h.len
  obtain ⟨n, en⟩ : ∃ n, m.length = n := ⟨_, rfl⟩
  obtain ⟨c0, -⟩ := cell_in hW.ob 0 rfl
  obtain ⟨c1, -⟩ := cell_in hW.ob 1 rfl
  obtain ⟨c2, -⟩ := cell_in hW.ob 2 rfl
  rw [en] at c0 hor
  obtain ⟨t0, -⟩ := cell_in hbx 0 rfl
  obtain ⟨t1, -⟩ := cell_in hbx 1 rfl
  obtain ⟨t2, -⟩ := cell_in hbx 2 rfl
  have z1 := hW.lt
  have z2 := box_lt hbx
  have HG := Lib.hid hgb
  have HW := Lib.hid hW
  have EN := Lib.hid en
  clear hend hgb hbx hbv h hE eb hW en eq ez
  rcases hor with ⟨rfl, rfl⟩ | ⟨rfl, hm, rfl⟩
  · go_enter Try.func78, Try.ntmps78
    go_wp2_with fail
    go_cut [8] (fun vq wx => vq = .bool true ∧ Grows W wx)
    case first =>
      have mixed : Try.prog.follows .mixedOrders = true := by kernel_rfl
      obtain ⟨q1, e1⟩ := regr (bl_drew (Below.refl _ _) : Below W.heap.size W W.drew)
      obtain ⟨q2, e2⟩ := regr (bl_drew (bl_alloc (Below.refl _ _) _) : Below W.heap.size W (W.alloc (.cells pz.cells TPK)).drew)
      have hl1 := hl q1
      have hl2 := hl q2
      rw [← e1] at hl1
      rw [← e2] at hl2
      simp only [PW.cells, PW.body] at hl2
      clear e1 e2
      go_region_law (fail)
      all_goals (
        go_wp2_with fail
        go_meet
        exact ⟨rfl, by show Below W.heap.size W _; (repeat (first | with_reducible exact Below.refl _ _ | with_reducible refine bl_alloc ?_ _ | ((with_reducible refine bl_set ?_ ?_ _); rotate_left; (first | exact Nat.le_refl _ | exact Nat.le_succ_of_le (Nat.le_refl _) | (simp only []; omega))) | with_reducible refine bl_drewN ?_ _ | with_reducible refine bl_drew ?_ | with_reducible refine bl_reg ?_ _))⟩)
    obtain ⟨rfl, hg0⟩ := hcut
    obtain ⟨W0, rfl⟩ : ∃ W0, W0 = wc := ⟨_, rfl⟩
    go_wp2_with fail
    go_ret
    exact HE.out _ (grows_trans _ _ _ HG.out hg0)
  · have hd : decide ((n : Int) ≥ (most : Int)) = true := decide_eq_true (by omega)
    have hd2 : (most ≤ n) = True := eq_true hm
    clear hm
    go_enter Try.func78, Try.ntmps78
    go_wp2_with fail
    go_cut [8] (fun vq wx => vq = .bool false ∧ Grows W wx)
    case first =>
      have mixed : Try.prog.follows .mixedOrders = true := by kernel_rfl
      obtain ⟨q1, e1⟩ := regr (bl_drew (Below.refl _ _) : Below W.heap.size W W.drew)
      obtain ⟨q2, e2⟩ := regr (bl_drew (bl_alloc (Below.refl _ _) _) : Below W.heap.size W (W.alloc (.cells pz.cells TPK)).drew)
      have hl1 := hl q1
      have hl2 := hl q2
      rw [← e1] at hl1
      rw [← e2] at hl2
      simp only [PW.cells, PW.body] at hl2
      clear e1 e2
      go_region_law (fail)
      all_goals (
        go_wp2_with fail
        go_meet
        exact ⟨rfl, by show Below W.heap.size W _; (repeat (first | with_reducible exact Below.refl _ _ | with_reducible refine bl_alloc ?_ _ | ((with_reducible refine bl_set ?_ ?_ _); rotate_left; (first | exact Nat.le_refl _ | exact Nat.le_succ_of_le (Nat.le_refl _) | (simp only []; omega))) | with_reducible refine bl_drewN ?_ _ | with_reducible refine bl_drew ?_ | with_reducible refine bl_reg ?_ _))⟩)
    obtain ⟨rfl, hg0⟩ := hcut
    obtain ⟨W0, rfl⟩ : ∃ W0, W0 = wc := ⟨_, rfl⟩
    clear c0 c1 c2 t0 t1 t2 z1 z2 hl
    have hW0 := HW.out.grows hg0
    obtain ⟨c0, -⟩ := cell_in hW0.ob 0 rfl
    obtain ⟨c2, -⟩ := cell_in hW0.ob 2 rfl
    have z1 := hW0.lt
    rw [EN.out] at c0
    clear hW0
    go_wp2_with fail
    refine wp_region_reg (by kernel_rfl) (by kernel_rfl) ?_
    repeat (first | go_big_quiet_step ((fail)) | quiet_step ((fail)))
    refine wpQuiet_nil ?_
    intro _ hcw1
    obtain ⟨pq, hcw2⟩ := hcw1
    subst hcw2
    go_wp2_with fail
    go_ret
    exact HE.out _ (grows_trans _ _ _ HG.out (grows_trans _ _ _ hg0 (below_reg _ _)))
end Go.Proofs.Ytdmmceclohkkdaa
