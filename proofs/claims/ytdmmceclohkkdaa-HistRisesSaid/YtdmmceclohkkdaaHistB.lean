/- A history's of and check; what it says of a packet. -/
import Derived.Test.YtdmmceclohkkdaaHistA
namespace Go.Proofs.Ytdmmceclohkkdaa
open Go.RowKit Go.Sort
set_option maxHeartbeats 4000000
set_option maxRecDepth 100000
/-- May a key be? -/
def goodK (k : KW) : Bool := decide (0 ≤ k.t) && (decide (k.t ≤ 1152921504606846976) && (decide (0 ≤ k.f) && decide (k.f < 64)))
/-- What is wrong with a packet, but for room. -/
def checkE (kd : Int) (k : KW) (dl : Int) (last : KW) (sm : Bool) : Int :=
  if kd ≠ 4 ∧ kd ≠ 5 then 7 else if goodK k = false ∨ 1152921504606846976 - dl < k.t then 1 else if sm = true ∧ lessK last k = false then 11 else 0
theorem knode_any (n : Int) (w : World) : Calls Try.prog 102 #[.int .i64 n] w (fun e w' => e = .returned (.bool (decide (0 ≤ n) && decide (n < 64))) ∧ w = w') := by
  by_cases h1 : 0 ≤ n
  · by_cases h2 : n < 64
    · rw [decide_eq_true h1, decide_eq_true h2]
      go_enter Try.func102, Try.ntmps102
      go_wp2
      go_ret
      exact ⟨rfl, rfl⟩
    · rw [decide_eq_true h1, decide_eq_false h2]
      go_enter Try.func102, Try.ntmps102
      go_wp2
      go_ret
      exact ⟨rfl, rfl⟩
  · rw [decide_eq_false h1]
    go_enter Try.func102, Try.ntmps102
    go_wp2
    go_ret
    exact ⟨rfl, rfl⟩
theorem kgood_any (k : KW) (w : World) : Calls Try.prog 93 #[k.val] w (RetV w (.bool (goodK k))) := by
  have HN := Lib.hid (fun W => knode_any k.f W)
  obtain ⟨z, ez⟩ : ∃ z, (decide (0 ≤ k.f) && decide (k.f < 64)) = z := ⟨_, rfl⟩
  unfold goodK
  rw [ez] at HN ⊢
  have HG := Lib.hid (bl_alloc (Below.refl _ _) _ : Grows w (w.alloc (.cells #[.int .i64 k.t, .int .i64 k.f, .int .u32 k.s] 29)))
  clear ez
  by_cases h1 : 0 ≤ k.t
  · by_cases h2 : k.t ≤ 1152921504606846976
    · rw [decide_eq_true h1, decide_eq_true h2]
      go_enter Try.func93, Try.ntmps93
      go_wp2_with fail
      refine (HN.out _).mono ?_
      rintro e w1 ⟨rfl, rfl⟩
      go_wp2_with fail
      go_ret
      exact ⟨rfl, HG.out⟩
    · rw [decide_eq_true h1, decide_eq_false h2]
      go_enter Try.func93, Try.ntmps93
      go_wp2_with fail
      go_ret
      exact ⟨rfl, HG.out⟩
  · rw [decide_eq_false h1]
    go_enter Try.func93, Try.ntmps93
    go_wp2_with fail
    go_ret
    exact ⟨rfl, HG.out⟩
theorem hof_any (x : PW) (w : World) : Calls Try.prog 79 #[x.val] w (RetV w (wv (x.k.f, x.kd))) := by
  go_enter Try.func79, Try.ntmps79
  go_wp2_with fail
  exact bodyPost_ret (v := wv (x.k.f, x.kd)) (by simp [results, Try.results79, go_sem]) rfl ⟨rfl, by (repeat (first | with_reducible exact Below.refl _ _ | with_reducible refine bl_alloc ?_ _ | ((with_reducible refine bl_set ?_ ?_ _); rotate_left; (first | exact Nat.le_refl _ | exact Nat.le_succ_of_le (Nat.le_refl _) | (simp only []; omega))) | with_reducible refine bl_drewN ?_ _ | with_reducible refine bl_drew ?_ | with_reducible refine bl_reg ?_ _))⟩
theorem delta_wrap {dl : Int} (h0 : 0 ≤ dl) (h1 : dl ≤ 1152921504606846976) : IntKind.i64.wrap (1152921504606846976 - dl) = 1152921504606846976 - dl ∧ wrap64 (1152921504606846976 - dl) = 1152921504606846976 - dl := by
  rw [wrapEq]; unfold wrap64; omega
theorem hcheck_any {w : World} {base hb tb mb wb most : Nat} {kv : Value} {dl : Int} {last : KW} {sm : Bool} {l : List HW} {g : Int × Int → Int} (x : PW) (h : HistAt w base hb tb kv mb wb most dl last sm l g) :
    Calls Try.prog 76 #[.pointer (some ⟨hb, 0, none⟩), x.val] w (RetV w (.int .i64 (checkE x.kd x.k dl last sm))) := by
  have hgb : Grows w (w.alloc (.cells x.cells TPK)) := bl_alloc (Below.refl _ _) _
  have hbx := heap_alloc_new w (.cells x.cells TPK)
  obtain ⟨W, eW⟩ : ∃ W, w.alloc (.cells x.cells TPK) = W := ⟨_, rfl⟩
  rw [eW] at hgb hbx
  have hob := box_grows h.ob hgb
  have HG := Lib.hid hgb
  have HK := Lib.hid (fun W => kgood_any x.k W)
  have HL := Lib.hid (fun W => kless_any last x.k W)
  obtain ⟨dw1, dw2⟩ := delta_wrap h.d0 h.d1
  obtain ⟨x0, x1, x2, x3, x4, x5, x6, x7, x8, x9, x10, x11, x12⟩ := pat_of hbx
  obtain ⟨c2, -⟩ := cell_in hob 2 rfl
  obtain ⟨c3, -⟩ := cell_in hob 3 rfl
  obtain ⟨c4, -⟩ := cell_in hob 4 rfl
  obtain ⟨c5, -⟩ := cell_in hob 5 rfl
  obtain ⟨c6, -⟩ := cell_in hob 6 rfl
  have z1 := box_lt hob
  simp only [PW.cells, PW.body] at eW
  have HS := Lib.hid (show ∀ W', Grows W W' → PAt W' w.heap.size x ∧ W'.cell? ⟨hb, 2, none⟩ = some (.int .i64 dl) ∧ W'.cell? ⟨hb, 3, none⟩ = some (.int .i64 last.t) ∧ W'.cell? ⟨hb, 4, none⟩ = some (.int .i64 last.f) ∧ W'.cell? ⟨hb, 5, none⟩ = some (.int .u32 last.s) ∧ W'.cell? ⟨hb, 6, none⟩ = some (.bool sm) ∧ hb < W'.heap.size from fun W' hg =>
    ⟨pat_of (box_grows hbx hg), (cell_in (box_grows hob hg) 2 rfl).1, (cell_in (box_grows hob hg) 3 rfl).1, (cell_in (box_grows hob hg) 4 rfl).1, (cell_in (box_grows hob hg) 5 rfl).1, (cell_in (box_grows hob hg) 6 rfl).1, box_lt (box_grows hob hg)⟩)
  clear h hgb hbx hob
  unfold checkE
  by_cases hk : x.kd ≠ 4 ∧ x.kd ≠ 5
  · rw [if_pos hk]
    obtain ⟨hk4, hk5⟩ := hk
    have hk6 : (x.kd == 4) = false := beq_false_of_ne hk4
    have hk7 : (x.kd == 5) = false := beq_false_of_ne hk5
    have hk8 : (x.kd != 4) = true := bne_iff_ne.2 hk4
    have hk9 : (x.kd != 5) = true := bne_iff_ne.2 hk5
    go_enter Try.func76, Try.ntmps76
    go_wp2_with fail
    go_ret
    exact ⟨rfl, HG.out⟩
  · rw [if_neg hk]
    have hk' : x.kd = 4 ∨ x.kd = 5 := by omega
    clear hk
    obtain ⟨gd, egd⟩ : ∃ gd, goodK x.k = gd := ⟨_, rfl⟩
    obtain ⟨ls, els⟩ : ∃ ls, lessK last x.k = ls := ⟨_, rfl⟩
    rw [egd] at HK ⊢
    rw [els] at HL ⊢
    clear egd els
    have fin : ∀ r, (if (gd = false ∨ 1152921504606846976 - dl < x.k.t) then (1 : Int) else if sm = true ∧ ls = false then 11 else 0) = r → Calls Try.prog 76 #[.pointer (some ⟨hb, 0, none⟩), x.val] w (RetV w (.int .i64 r)) := by
      intro r er
      cases gd with
      | false =>
        obtain rfl : r = 1 := by rw [← er]; simp
        clear er
        rcases hk' with hkd | hkd
        all_goals (
          rw [hkd] at x0
          go_enter Try.func76, Try.ntmps76
          go_wp2_with fail
          refine wp_region_reg (by kernel_rfl) (by kernel_rfl) ?_
          repeat (first | go_big_quiet_step ((go_at_call 93; exact class_reg (HK.out _))) | quiet_step ((go_at_call 93; exact class_reg (HK.out _))))
          refine wpQuiet_nil ?_
          intro _ hcw1
          obtain ⟨pq, hcw2⟩ := hcw1
          subst hcw2
          go_wp2_with fail
          go_ret
          exact ⟨rfl, grows_trans _ _ _ HG.out (below_reg _ _)⟩)
      | true =>
        by_cases ht : 1152921504606846976 - dl < x.k.t
        · obtain rfl : r = 1 := by rw [← er]; simp [ht]
          clear er
          rcases hk' with hkd | hkd
          all_goals (
            rw [hkd] at x0
            go_enter Try.func76, Try.ntmps76
            go_wp2_with fail
            refine wp_region_reg (by kernel_rfl) (by kernel_rfl) ?_
            repeat (first | go_big_quiet_step ((go_at_call 93; exact class_reg (HK.out _))) | quiet_step ((go_at_call 93; exact class_reg (HK.out _))))
            refine wpQuiet_nil ?_
            intro _ hcw1
            obtain ⟨pq, hcw2⟩ := hcw1
            subst hcw2
            go_wp2_with fail
            go_ret
            exact ⟨rfl, grows_trans _ _ _ HG.out (below_reg _ _)⟩)
        · cases sm with
          | false =>
            obtain rfl : r = 0 := by rw [← er]; simp [ht]
            clear er
            rcases hk' with hkd | hkd
            all_goals (
              rw [hkd] at x0
              go_enter Try.func76, Try.ntmps76
              go_wp2_with fail
              refine wp_region_reg (by kernel_rfl) (by kernel_rfl) ?_
              repeat (first | go_big_quiet_step ((go_at_call 93; exact class_reg (HK.out _))) | quiet_step ((go_at_call 93; exact class_reg (HK.out _))))
              refine wpQuiet_nil ?_
              intro _ hcw1
              obtain ⟨pq, hcw2⟩ := hcw1
              subst hcw2
              have hg1 : Grows W (reg W pq) := below_reg _ _
              obtain ⟨W1, eW1⟩ : ∃ W1, reg W pq = W1 := ⟨_, rfl⟩
              rw [eW1] at hg1 ⊢
              have HG1 := Lib.hid hg1
              clear x0 x1 x2 x3 x4 x5 x6 x7 x8 x9 x10 x11 x12 c2 c3 c4 c5 c6 z1 eW1
              obtain ⟨⟨x0, x1, x2, x3, x4, x5, x6, x7, x8, x9, x10, x11, x12⟩, c2, c3, c4, c5, c6, z1⟩ := HS.out W1 hg1
              clear hg1
              go_wp2_with fail
              refine wp_region_reg (by kernel_rfl) (by kernel_rfl) ?_
              repeat (first | go_big_quiet_step ((go_at_call 94; exact class_reg (HL.out _))) | quiet_step ((go_at_call 94; exact class_reg (HL.out _))))
              refine wpQuiet_nil ?_
              intro _ hcw1
              obtain ⟨pq, hcw2⟩ := hcw1
              subst hcw2
              go_wp2_with fail
              go_ret
              exact ⟨rfl, grows_trans _ _ _ HG.out (grows_trans _ _ _ HG1.out (below_reg _ _))⟩)
          | true =>
            cases ls with
            | false =>
              obtain rfl : r = 11 := by rw [← er]; simp [ht]
              clear er
              rcases hk' with hkd | hkd
              all_goals (
                rw [hkd] at x0
                go_enter Try.func76, Try.ntmps76
                go_wp2_with fail
                refine wp_region_reg (by kernel_rfl) (by kernel_rfl) ?_
                repeat (first | go_big_quiet_step ((go_at_call 93; exact class_reg (HK.out _))) | quiet_step ((go_at_call 93; exact class_reg (HK.out _))))
                refine wpQuiet_nil ?_
                intro _ hcw1
                obtain ⟨pq, hcw2⟩ := hcw1
                subst hcw2
                have hg1 : Grows W (reg W pq) := below_reg _ _
                obtain ⟨W1, eW1⟩ : ∃ W1, reg W pq = W1 := ⟨_, rfl⟩
                rw [eW1] at hg1 ⊢
                have HG1 := Lib.hid hg1
                clear x0 x1 x2 x3 x4 x5 x6 x7 x8 x9 x10 x11 x12 c2 c3 c4 c5 c6 z1 eW1
                obtain ⟨⟨x0, x1, x2, x3, x4, x5, x6, x7, x8, x9, x10, x11, x12⟩, c2, c3, c4, c5, c6, z1⟩ := HS.out W1 hg1
                clear hg1
                go_wp2_with fail
                refine wp_region_reg (by kernel_rfl) (by kernel_rfl) ?_
                repeat (first | go_big_quiet_step ((go_at_call 94; exact class_reg (HL.out _))) | quiet_step ((go_at_call 94; exact class_reg (HL.out _))))
                refine wpQuiet_nil ?_
                intro _ hcw1
                obtain ⟨pq, hcw2⟩ := hcw1
                subst hcw2
                go_wp2_with fail
                go_ret
                exact ⟨rfl, grows_trans _ _ _ HG.out (grows_trans _ _ _ HG1.out (below_reg _ _))⟩)
            | true =>
              obtain rfl : r = 0 := by rw [← er]; simp [ht]
              clear er
              rcases hk' with hkd | hkd
              all_goals (
                rw [hkd] at x0
                go_enter Try.func76, Try.ntmps76
                go_wp2_with fail
                refine wp_region_reg (by kernel_rfl) (by kernel_rfl) ?_
                repeat (first | go_big_quiet_step ((go_at_call 93; exact class_reg (HK.out _))) | quiet_step ((go_at_call 93; exact class_reg (HK.out _))))
                refine wpQuiet_nil ?_
                intro _ hcw1
                obtain ⟨pq, hcw2⟩ := hcw1
                subst hcw2
                have hg1 : Grows W (reg W pq) := below_reg _ _
                obtain ⟨W1, eW1⟩ : ∃ W1, reg W pq = W1 := ⟨_, rfl⟩
                rw [eW1] at hg1 ⊢
                have HG1 := Lib.hid hg1
                clear x0 x1 x2 x3 x4 x5 x6 x7 x8 x9 x10 x11 x12 c2 c3 c4 c5 c6 z1 eW1
                obtain ⟨⟨x0, x1, x2, x3, x4, x5, x6, x7, x8, x9, x10, x11, x12⟩, c2, c3, c4, c5, c6, z1⟩ := HS.out W1 hg1
                clear hg1
                go_wp2_with fail
                refine wp_region_reg (by kernel_rfl) (by kernel_rfl) ?_
                repeat (first | go_big_quiet_step ((go_at_call 94; exact class_reg (HL.out _))) | quiet_step ((go_at_call 94; exact class_reg (HL.out _))))
                refine wpQuiet_nil ?_
                intro _ hcw1
                obtain ⟨pq, hcw2⟩ := hcw1
                subst hcw2
                go_wp2_with fail
                go_ret
                exact ⟨rfl, grows_trans _ _ _ HG.out (grows_trans _ _ _ HG1.out (below_reg _ _))⟩)
    exact fin _ rfl
end Go.Proofs.Ytdmmceclohkkdaa
