/- A history's of and check; what it says of a packet. -/
import Derived.Test.YtdmmceclohkkdaaTabFP
import Derived.Test.YtdmmceclohkkdaaMine
import Derived.Test.YtdmmceclohkkdaaByt
import Derived.Test.YtdmmceclohkkdaaTabDrop
/- A history: how it lies; New, of, check. -/
namespace Go.Proofs.Ytdmmceclohkkdaa
open Go.RowKit Go.Sort
set_option maxHeartbeats 4000000
set_option maxRecDepth 100000
abbrev THI : TypeId := 128
/-- What waits: a packet, and its bytes. -/
abbrev HW := PW × List Int
abbrev hv (h : HW) : KW × Value := (h.1.k, h.1.val)
theorem hv_rows (l : List HW) : PRows (l.map hv) := fun p hp => by obtain ⟨h, -, rfl⟩ := List.mem_map.1 hp; exact ⟨h.1, rfl⟩
/-- A history lies at block hb: what waits is l, in order; of each node and kind there are so many. -/
structure HistAt (w : World) (base hb tb : Nat) (kv : Value) (mb wb : Nat) (most : Nat) (dl : Int) (last : KW) (sm : Bool) (l : List HW) (g : Int × Int → Int) : Prop where
  ob : w.heap[hb]? = some (.cells #[.pointer (some ⟨tb, 0, none⟩), .map (some wb), .int .i64 dl, .int .i64 last.t, .int .i64 last.f, .int .u32 last.s, .bool sm] THI (0, 0))
  tab : TabAt TTP w base tb kv mb (l.map hv) most
  mine : MineAt w wb g
  bod : ∀ h ∈ l, BRow w base h.1.body h.2
  bh : base ≤ hb
  bw : base ≤ wb
  wm : wb ≠ mb
  d0 : 0 ≤ dl
  d1 : dl ≤ 1152921504606846976
/-- Its blocks. -/
def HistS (hb tb : Nat) (kv : Value) (mb wb : Nat) (j : Nat) : Prop := j = hb ∨ j = wb ∨ TabS tb kv mb j
section
variable {w w' : World} {base hb tb mb wb most : Nat} {kv : Value} {dl : Int} {last : KW} {sm : Bool} {l : List HW} {g : Int × Int → Int}
theorem HistAt.grows (h : HistAt w base hb tb kv mb wb most dl last sm l g) (hg : Grows w w') : HistAt w' base hb tb kv mb wb most dl last sm l g :=
  ⟨box_grows h.ob hg, h.tab.grows hg, h.mine.grows hg, fun x hx => own_grows (h.bod x hx) hg, h.bh, h.bw, h.wm, h.d0, h.d1⟩
theorem mine_ne_cells {b : Nat} (h : MineAt w b g) {cs : Array Value} {T : TypeId} {z : Nat × Nat} (hc : w.heap[b]? = some (.cells cs T z)) : False := by
  obtain ⟨m, cl, h1, _⟩ := h
  rw [h1] at hc
  cases hc
theorem notS {T T' : TypeId} {p : Nat} {m : List (KW × Value)} {cs : Array Value} {z : Nat × Nat} (h : TabAt T w base tb kv mb m most) (hp : w.heap[p]? = some (.cells cs T' z)) (h1 : T' ≠ T) (h2 : T' ≠ 29) : ¬ TabS tb kv mb p := by
  rintro (hs | hs | hs)
  · rw [hs, h.ob] at hp
    injection hp with hp
    injection hp with _ hp
    exact h1 hp.symm
  · subst hs; exact map_ne_cells h.map hp
  · obtain ⟨cur, hg⟩ := h.own.ty hs
    rw [hp] at hg
    injection hg with hg
    injection hg with _ hg
    exact h2 hg
theorem HistAt.hS (h : HistAt w base hb tb kv mb wb most dl last sm l g) : ¬ TabS tb kv mb hb := notS h.tab h.ob (by decide) (by decide)
theorem HistAt.wS (h : HistAt w base hb tb kv mb wb most dl last sm l g) : ¬ TabS tb kv mb wb := by
  rintro (hs | hs | hs)
  · exact mine_ne_cells h.mine (hs ▸ h.tab.ob)
  · exact h.wm hs
  · obtain ⟨cur, hg⟩ := h.tab.own.ty hs
    exact mine_ne_cells h.mine hg
theorem HistAt.hw (h : HistAt w base hb tb kv mb wb most dl last sm l g) : hb ≠ wb := fun e => mine_ne_cells h.mine (e ▸ h.ob)
/-- A block of cells of another type is none of a history's. -/
theorem HistAt.notS (h : HistAt w base hb tb kv mb wb most dl last sm l g) {p : Nat} {T' : TypeId} {cs : Array Value} {z : Nat × Nat} (hp : w.heap[p]? = some (.cells cs T' z)) (h1 : T' ≠ TTP) (h2 : T' ≠ 29) (h3 : T' ≠ THI) : ¬ HistS hb tb kv mb wb p := by
  rintro (hs | hs | hs)
  · rw [hs, h.ob] at hp
    injection hp with hp
    injection hp with _ hp
    exact h3 hp.symm
  · exact mine_ne_cells h.mine (hs ▸ hp)
  · exact Go.Proofs.Ytdmmceclohkkdaa.notS h.tab hp h1 h2 hs
theorem brow_ty {b2 : Nat} {v : Value} {b : List Int} (h : BRow w b2 v b) {j : Nat} (hj : v.ownBlock = some j) : ∃ cur, w.heap[j]? = some (.cells cur 5 (0, 0)) := by
  rcases h.2 with ⟨h1, _⟩ | ⟨g, cap, cur, hv, _, hg, _⟩
  · rw [h1] at hj; simp [Value.ownBlock] at hj
  · rw [hv] at hj
    simp only [Value.ownBlock, Option.some.injEq] at hj
    subst hj
    exact ⟨cur, hg⟩
/-- Bytes stay through a history's changes. -/
theorem HistAt.bytes (h : HistAt w base hb tb kv mb wb most dl last sm l g) {b2 : Nat} {v : Value} {b : List Int} (hx : BRow w b2 v b) (hc : Chg (HistS hb tb kv mb wb) w w') : BRow w' b2 v b :=
  hc.own hx fun j hj hs => by
    obtain ⟨cur, hg⟩ := brow_ty hx hj
    exact h.notS hg (by decide) (by decide) (by decide) hs
theorem HistAt.lt (h : HistAt w base hb tb kv mb wb most dl last sm l g) : hb < w.heap.size := box_lt h.ob
/-- Whoever was there ahead of the history stays. -/
theorem HistAt.behind {W : World} (h : HistAt w base hb tb kv mb wb most dl last sm l g) (hb' : W.heap.size ≤ base) (hg : Grows W w) (hc : Chg (HistS hb tb kv mb wb) w w') : Grows W w' :=
  grows_of_chg hg hc fun j hj => by
    rcases hj with hs | hs | hs | hs | hs
    · have := h.bh; omega
    · have := h.bw; omega
    · have := h.tab.bt; omega
    · have := h.tab.bm; omega
    · have := (h.tab.own.lt _ hs).1; omega
end
/-- A number kept within bounds. -/
def clampD (x : Int) : Int := if x < 0 then 0 else if 1152921504606846976 < x then 1152921504606846976 else x
theorem clampD_in (x : Int) : 0 ≤ clampD x ∧ clampD x ≤ 1152921504606846976 := by unfold clampD; split <;> (try split) <;> omega
theorem clampD_any (x : Int) (w : World) : Calls Try.prog 75 #[.int .i64 x, .int .i64 0, .int .i64 1152921504606846976] w (fun e w' => e = .returned (.int .i64 (clampD x)) ∧ w = w') := by
  by_cases h1 : x < 0
  · rw [show clampD x = 0 by unfold clampD; rw [if_pos h1]]
    go_enter Try.func75, Try.ntmps75
    go_wp2
    go_ret
    exact ⟨rfl, rfl⟩
  · by_cases h2 : 1152921504606846976 < x
    · rw [show clampD x = 1152921504606846976 by unfold clampD; rw [if_neg h1, if_pos h2]]
      go_enter Try.func75, Try.ntmps75
      go_wp2
      go_ret
      exact ⟨rfl, rfl⟩
    · rw [show clampD x = x by unfold clampD; rw [if_neg h1, if_neg h2]]
      go_enter Try.func75, Try.ntmps75
      go_wp2
      go_ret
      exact ⟨rfl, rfl⟩
theorem hnew_any (n d : Int) (w : World) : Calls Try.prog 42 #[.int .i64 n, .int .i64 d] w (fun e w' => ∃ hb wb, e = .returned (.pointer (some ⟨hb, 0, none⟩)) ∧ Grows w w' ∧ HistAt w' w.heap.size hb (w.heap.size + 1) (.slice none 0 0) w.heap.size wb (mostOfP n) (clampD d) ⟨0, 0, 0⟩ false [] (fun _ => 0)) := by
  have HN := Lib.hid (tnewP n w)
  have HC := Lib.hid (fun W => clampD_any d W)
  have hcl := clampD_in d
  obtain ⟨D, eD⟩ : ∃ D, clampD d = D := ⟨_, rfl⟩
  rw [eD] at HC hcl
  rw [eD]
  have HCL := Lib.hid hcl
  have hmm := @run_makeMap Try.prog
  clear eD hcl
  go_enter Try.func42, Try.ntmps42
  go_wp2_with fail
  refine (HN.out).mono ?_
  rintro e w1 ⟨rfl, hg1, ht1⟩
  have HT := Lib.hid ht1
  have HG := Lib.hid hg1
  clear ht1 hg1
  go_wp2_with fail
  refine (HC.out _).mono ?_
  rintro e w2 ⟨rfl, rfl⟩
  go_wp2_with fail
  go_ret
  have h2 := two_new w1 (.map #[] 0) (.cells #[.pointer (some ⟨w.heap.size + 1, 0, none⟩), .map (some w1.heap.size), .int .i64 D, .int .i64 0, .int .i64 0, .int .u32 0, .bool false] THI)
  have g2 : Grows w1 ((w1.alloc (.map #[] 0)).alloc (.cells #[.pointer (some ⟨w.heap.size + 1, 0, none⟩), .map (some w1.heap.size), .int .i64 D, .int .i64 0, .int .i64 0, .int .u32 0, .bool false] THI)) := bl_alloc (bl_alloc (Below.refl _ _) _) _
  exact ⟨_, w1.heap.size, rfl, grows_trans _ _ _ HG.out g2, h2.2, HT.out.grows g2, (MineAt.made w1).grows (bl_alloc (Below.refl _ _) _), fun x hx => by simp at hx, Nat.le_trans HG.out.size (Nat.le_succ _), HG.out.size, fun e => by have := HT.out.mlt; omega, HCL.out.1, HCL.out.2⟩
end Go.Proofs.Ytdmmceclohkkdaa
namespace Go.Proofs.Ytdmmceclohkkdaa
open Go.RowKit Go.Sort
set_option maxHeartbeats 4000000
set_option maxRecDepth 100000
/-- May a key be? -/
def goodK (k : KW) : Bool := decide (0 ≤ k.t) && (decide (k.t ≤ 1152921504606846976) && (decide (0 ≤ k.f) && decide (k.f < 64)))
/-- What is wrong with a packet, but for room. -/
def checkE (kd : Int) (k : KW) (dl : Int) (last : KW) (sm : Bool) : Int :=
  if kd ≠ 4 ∧ kd ≠ 5 then 7 else if goodK k = false ∨ 1152921504606846976 - dl < k.t then 1 else if sm = true ∧ lessK last k = false then 11 else 0
theorem knode_any (n : Int) (w : World) : Calls Try.prog 102 #[.int .i64 n] w (fun e w' => e = .returned (.bool (decide (0 ≤ n) && decide (n < 64))) ∧ w = w') := by
  by_cases h1 : 0 ≤ n
  · by_cases h2 : n < 64
    · rw [decide_eq_true h1, decide_eq_true h2]
      go_enter Try.func102, Try.ntmps102
      go_wp2
      go_ret
      exact ⟨rfl, rfl⟩
    · rw [decide_eq_true h1, decide_eq_false h2]
      go_enter Try.func102, Try.ntmps102
      go_wp2
      go_ret
      exact ⟨rfl, rfl⟩
  · rw [decide_eq_false h1]
    go_enter Try.func102, Try.ntmps102
    go_wp2
    go_ret
    exact ⟨rfl, rfl⟩
theorem kgood_any (k : KW) (w : World) : Calls Try.prog 93 #[k.val] w (RetV w (.bool (goodK k))) := by
  have HN := Lib.hid (fun W => knode_any k.f W)
  obtain ⟨z, ez⟩ : ∃ z, (decide (0 ≤ k.f) && decide (k.f < 64)) = z := ⟨_, rfl⟩
  unfold goodK
  rw [ez] at HN ⊢
  have HG := Lib.hid (bl_alloc (Below.refl _ _) _ : Grows w (w.alloc (.cells #[.int .i64 k.t, .int .i64 k.f, .int .u32 k.s] 29)))
  clear ez
  by_cases h1 : 0 ≤ k.t
  · by_cases h2 : k.t ≤ 1152921504606846976
    · rw [decide_eq_true h1, decide_eq_true h2]
      go_enter Try.func93, Try.ntmps93
      go_wp2_with fail
      refine (HN.out _).mono ?_
      rintro e w1 ⟨rfl, rfl⟩
      go_wp2_with fail
      go_ret
      exact ⟨rfl, HG.out⟩
    · rw [decide_eq_true h1, decide_eq_false h2]
      go_enter Try.func93, Try.ntmps93
      go_wp2_with fail
      go_ret
      exact ⟨rfl, HG.out⟩
  · rw [decide_eq_false h1]
    go_enter Try.func93, Try.ntmps93
    go_wp2_with fail
    go_ret
    exact ⟨rfl, HG.out⟩
theorem hof_any (x : PW) (w : World) : Calls Try.prog 79 #[x.val] w (RetV w (wv (x.k.f, x.kd))) := by
  go_enter Try.func79, Try.ntmps79
  go_wp2_with fail
  exact bodyPost_ret (v := wv (x.k.f, x.kd)) (by simp [results, Try.results79, go_sem]) rfl ⟨rfl, by (repeat (first | with_reducible exact Below.refl _ _ | with_reducible refine bl_alloc ?_ _ | ((with_reducible refine bl_set ?_ ?_ _); rotate_left; (first | exact Nat.le_refl _ | exact Nat.le_succ_of_le (Nat.le_refl _) | (simp only []; omega))) | with_reducible refine bl_drewN ?_ _ | with_reducible refine bl_drew ?_ | with_reducible refine bl_reg ?_ _))⟩
theorem delta_wrap {dl : Int} (h0 : 0 ≤ dl) (h1 : dl ≤ 1152921504606846976) : IntKind.i64.wrap (1152921504606846976 - dl) = 1152921504606846976 - dl ∧ wrap64 (1152921504606846976 - dl) = 1152921504606846976 - dl := by
  rw [wrapEq]; unfold wrap64; omega
theorem hcheck_any {w : World} {base hb tb mb wb most : Nat} {kv : Value} {dl : Int} {last : KW} {sm : Bool} {l : List HW} {g : Int × Int → Int} (x : PW) (h : HistAt w base hb tb kv mb wb most dl last sm l g) :
    Calls Try.prog 76 #[.pointer (some ⟨hb, 0, none⟩), x.val] w (RetV w (.int .i64 (checkE x.kd x.k dl last sm))) := by
  have hgb : Grows w (w.alloc (.cells x.cells TPK)) := bl_alloc (Below.refl _ _) _
  have hbx := heap_alloc_new w (.cells x.cells TPK)
  obtain ⟨W, eW⟩ : ∃ W, w.alloc (.cells x.cells TPK) = W := ⟨_, rfl⟩
  rw [eW] at hgb hbx
  have hob := box_grows h.ob hgb
  have HG := Lib.hid hgb
  have HK := Lib.hid (fun W => kgood_any x.k W)
  have HL := Lib.hid (fun W => kless_any last x.k W)
  obtain ⟨dw1, dw2⟩ := delta_wrap h.d0 h.d1
  obtain ⟨x0, x1, x2, x3, x4, x5, x6, x7, x8, x9, x10, x11, x12⟩ := pat_of hbx
  obtain ⟨c2, -⟩ := cell_in hob 2 rfl
  obtain ⟨c3, -⟩ := cell_in hob 3 rfl
  obtain ⟨c4, -⟩ := cell_in hob 4 rfl
  obtain ⟨c5, -⟩ := cell_in hob 5 rfl
  obtain ⟨c6, -⟩ := cell_in hob 6 rfl
  have z1 := box_lt hob
  simp only [PW.cells, PW.body] at eW
  have HS := Lib.hid (show ∀ W', Grows W W' → PAt W' w.heap.size x ∧ W'.cell? ⟨hb, 2, none⟩ = some (.int .i64 dl) ∧ W'.cell? ⟨hb, 3, none⟩ = some (.int .i64 last.t) ∧ W'.cell? ⟨hb, 4, none⟩ = some (.int .i64 last.f) ∧ W'.cell? ⟨hb, 5, none⟩ = some (.int .u32 last.s) ∧ W'.cell? ⟨hb, 6, none⟩ = some (.bool sm) ∧ hb < W'.heap.size from fun W' hg =>
    ⟨pat_of (box_grows hbx hg), (cell_in (box_grows hob hg) 2 rfl).1, (cell_in (box_grows hob hg) 3 rfl).1, (cell_in (box_grows hob hg) 4 rfl).1, (cell_in (box_grows hob hg) 5 rfl).1, (cell_in (box_grows hob hg) 6 rfl).1, box_lt (box_grows hob hg)⟩)
  clear h hgb hbx hob
  unfold checkE
  by_cases hk : x.kd ≠ 4 ∧ x.kd ≠ 5
  · rw [if_pos hk]
    obtain ⟨hk4, hk5⟩ := hk
    have hk6 : (x.kd == 4) = false := beq_false_of_ne hk4
    have hk7 : (x.kd == 5) = false := beq_false_of_ne hk5
    have hk8 : (x.kd != 4) = true := bne_iff_ne.2 hk4
    have hk9 : (x.kd != 5) = true := bne_iff_ne.2 hk5
    go_enter Try.func76, Try.ntmps76
    go_wp2_with fail
    go_ret
    exact ⟨rfl, HG.out⟩
  · rw [if_neg hk]
    have hk' : x.kd = 4 ∨ x.kd = 5 := by omega
    clear hk
    obtain ⟨gd, egd⟩ : ∃ gd, goodK x.k = gd := ⟨_, rfl⟩
    obtain ⟨ls, els⟩ : ∃ ls, lessK last x.k = ls := ⟨_, rfl⟩
    rw [egd] at HK ⊢
    rw [els] at HL ⊢
    clear egd els
    have fin : ∀ r, (if (gd = false ∨ 1152921504606846976 - dl < x.k.t) then (1 : Int) else if sm = true ∧ ls = false then 11 else 0) = r → Calls Try.prog 76 #[.pointer (some ⟨hb, 0, none⟩), x.val] w (RetV w (.int .i64 r)) := by
      intro r er
      cases gd with
      | false =>
        obtain rfl : r = 1 := by rw [← er]; simp
        clear er
        rcases hk' with hkd | hkd
        all_goals (
          rw [hkd] at x0
          go_enter Try.func76, Try.ntmps76
          go_wp2_with fail
          refine wp_region_reg (by kernel_rfl) (by kernel_rfl) ?_
          repeat (first | go_big_quiet_step ((go_at_call 93; exact class_reg (HK.out _))) | quiet_step ((go_at_call 93; exact class_reg (HK.out _))))
          refine wpQuiet_nil ?_
          intro _ hcw1
          obtain ⟨pq, hcw2⟩ := hcw1
          subst hcw2
          go_wp2_with fail
          go_ret
          exact ⟨rfl, grows_trans _ _ _ HG.out (below_reg _ _)⟩)
      | true =>
        by_cases ht : 1152921504606846976 - dl < x.k.t
        · obtain rfl : r = 1 := by rw [← er]; simp [ht]
          clear er
          rcases hk' with hkd | hkd
          all_goals (
            rw [hkd] at x0
            go_enter Try.func76, Try.ntmps76
            go_wp2_with fail
            refine wp_region_reg (by kernel_rfl) (by kernel_rfl) ?_
            repeat (first | go_big_quiet_step ((go_at_call 93; exact class_reg (HK.out _))) | quiet_step ((go_at_call 93; exact class_reg (HK.out _))))
            refine wpQuiet_nil ?_
            intro _ hcw1
            obtain ⟨pq, hcw2⟩ := hcw1
            subst hcw2
            go_wp2_with fail
            go_ret
            exact ⟨rfl, grows_trans _ _ _ HG.out (below_reg _ _)⟩)
        · cases sm with
          | false =>
            obtain rfl : r = 0 := by rw [← er]; simp [ht]
            clear er
            rcases hk' with hkd | hkd
            all_goals (
              rw [hkd] at x0
              go_enter Try.func76, Try.ntmps76
              go_wp2_with fail
              refine wp_region_reg (by kernel_rfl) (by kernel_rfl) ?_
              repeat (first | go_big_quiet_step ((go_at_call 93; exact class_reg (HK.out _))) | quiet_step ((go_at_call 93; exact class_reg (HK.out _))))
              refine wpQuiet_nil ?_
              intro _ hcw1
              obtain ⟨pq, hcw2⟩ := hcw1
              subst hcw2
              have hg1 : Grows W (reg W pq) := below_reg _ _
              obtain ⟨W1, eW1⟩ : ∃ W1, reg W pq = W1 := ⟨_, rfl⟩
              rw [eW1] at hg1 ⊢
              have HG1 := Lib.hid hg1
              clear x0 x1 x2 x3 x4 x5 x6 x7 x8 x9 x10 x11 x12 c2 c3 c4 c5 c6 z1 eW1
              obtain ⟨⟨x0, x1, x2, x3, x4, x5, x6, x7, x8, x9, x10, x11, x12⟩, c2, c3, c4, c5, c6, z1⟩ := HS.out W1 hg1
              clear hg1
              go_wp2_with fail
              refine wp_region_reg (by kernel_rfl) (by kernel_rfl) ?_
              repeat (first | go_big_quiet_step ((go_at_call 94; exact class_reg (HL.out _))) | quiet_step ((go_at_call 94; exact class_reg (HL.out _))))
              refine wpQuiet_nil ?_
              intro _ hcw1
              obtain ⟨pq, hcw2⟩ := hcw1
              subst hcw2
              go_wp2_with fail
              go_ret
              exact ⟨rfl, grows_trans _ _ _ HG.out (grows_trans _ _ _ HG1.out (below_reg _ _))⟩)
          | true =>
            cases ls with
            | false =>
              obtain rfl : r = 11 := by rw [← er]; simp [ht]
              clear er
              rcases hk' with hkd | hkd
              all_goals (
                rw [hkd] at x0
                go_enter Try.func76, Try.ntmps76
                go_wp2_with fail
                refine wp_region_reg (by kernel_rfl) (by kernel_rfl) ?_
                repeat (first | go_big_quiet_step ((go_at_call 93; exact class_reg (HK.out _))) | quiet_step ((go_at_call 93; exact class_reg (HK.out _))))
                refine wpQuiet_nil ?_
                intro _ hcw1
                obtain ⟨pq, hcw2⟩ := hcw1
                subst hcw2
                have hg1 : Grows W (reg W pq) := below_reg _ _
                obtain ⟨W1, eW1⟩ : ∃ W1, reg W pq = W1 := ⟨_, rfl⟩
                rw [eW1] at hg1 ⊢
                have HG1 := Lib.hid hg1
                clear x0 x1 x2 x3 x4 x5 x6 x7 x8 x9 x10 x11 x12 c2 c3 c4 c5 c6 z1 eW1
                obtain ⟨⟨x0, x1, x2, x3, x4, x5, x6, x7, x8, x9, x10, x11, x12⟩, c2, c3, c4, c5, c6, z1⟩ := HS.out W1 hg1
                clear hg1
                go_wp2_with fail
                refine wp_region_reg (by kernel_rfl) (by kernel_rfl) ?_
                repeat (first | go_big_quiet_step ((go_at_call 94; exact class_reg (HL.out _))) | quiet_step ((go_at_call 94; exact class_reg (HL.out _))))
                refine wpQuiet_nil ?_
                intro _ hcw1
                obtain ⟨pq, hcw2⟩ := hcw1
                subst hcw2
                go_wp2_with fail
                go_ret
                exact ⟨rfl, grows_trans _ _ _ HG.out (grows_trans _ _ _ HG1.out (below_reg _ _))⟩)
            | true =>
              obtain rfl : r = 0 := by rw [← er]; simp [ht]
              clear er
              rcases hk' with hkd | hkd
              all_goals (
                rw [hkd] at x0
                go_enter Try.func76, Try.ntmps76
                go_wp2_with fail
                refine wp_region_reg (by kernel_rfl) (by kernel_rfl) ?_
                repeat (first | go_big_quiet_step ((go_at_call 93; exact class_reg (HK.out _))) | quiet_step ((go_at_call 93; exact class_reg (HK.out _))))
                refine wpQuiet_nil ?_
                intro _ hcw1
                obtain ⟨pq, hcw2⟩ := hcw1
                subst hcw2
                have hg1 : Grows W (reg W pq) := below_reg _ _
                obtain ⟨W1, eW1⟩ : ∃ W1, reg W pq = W1 := ⟨_, rfl⟩
                rw [eW1] at hg1 ⊢
                have HG1 := Lib.hid hg1
                clear x0 x1 x2 x3 x4 x5 x6 x7 x8 x9 x10 x11 x12 c2 c3 c4 c5 c6 z1 eW1
                obtain ⟨⟨x0, x1, x2, x3, x4, x5, x6, x7, x8, x9, x10, x11, x12⟩, c2, c3, c4, c5, c6, z1⟩ := HS.out W1 hg1
                clear hg1
                go_wp2_with fail
                refine wp_region_reg (by kernel_rfl) (by kernel_rfl) ?_
                repeat (first | go_big_quiet_step ((go_at_call 94; exact class_reg (HL.out _))) | quiet_step ((go_at_call 94; exact class_reg (HL.out _))))
                refine wpQuiet_nil ?_
                intro _ hcw1
                obtain ⟨pq, hcw2⟩ := hcw1
                subst hcw2
                go_wp2_with fail
                go_ret
                exact ⟨rfl, grows_trans _ _ _ HG.out (grows_trans _ _ _ HG1.out (below_reg _ _))⟩)
    exact fin _ rfl
end Go.Proofs.Ytdmmceclohkkdaa
