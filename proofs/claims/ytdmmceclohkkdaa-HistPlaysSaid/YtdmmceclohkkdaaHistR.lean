/- The document's Put of a packet (printed by histputgen.py). -/
import Derived.Test.YtdmmceclohkkdaaHistL
/- The document's Pop. -/
/- The document's Same of two packets; Mine, and counts. -/
/- The document's history: how it lies; New, Clamp, Good. -/
namespace Go.Proofs.Ytdmmceclohkkdaa
open Go.RowKit Go.Sort
set_option maxHeartbeats 4000000
set_option maxRecDepth 100000
abbrev TRH : TypeId := 89
abbrev TSP : TypeId := 87
theorem Try.infoPkt : (Try.prog.info? TPK).map (fun i => (i.zero, i.size, i.bytes)) = some (some PZ, 12, 112) := by kernel_rfl
abbrev pcs (x : PW) : List Value := [.int .i64 x.kd, .int .i64 x.k.t, .int .i64 x.k.f, .int .u32 x.k.s, .int .i64 x.hp, .int .i64 x.no, .int .i64 x.dt, .int .i64 x.ix, .int .i64 x.tt, .int .i64 x.st, .int .i64 x.vl, x.body]
abbrev pvs (l : List PW) : List Value := l.flatMap pcs
theorem pcs_one : ∀ (p : PW), ∀ u ∈ pcs p, u.oneCell' = true := by
  intro k u hu
  simp only [pcs, List.mem_cons, List.not_mem_nil, or_false] at hu
  rcases hu with rfl | rfl | rfl | rfl | rfl | rfl | rfl | rfl | rfl | rfl | rfl | rfl <;> rfl
theorem pvs_one (l : List PW) : ∀ u ∈ pvs l, u.oneCell' = true := rows_one (f := pcs) pcs_one l
theorem pvs_length (l : List PW) : (pvs l).length = l.length * 12 := rows_length (f := pcs) (k := 12) (fun _ => rfl) l
theorem pvs_append (l m : List PW) : pvs (l ++ m) = pvs l ++ pvs m := by simp [pvs]
/-- A slice of packets of its own. -/
abbrev POwn (w : World) (base : Nat) (v : Value) (l : List PW) : Prop := w.ownsRow base TPK 12 v l.length (pvs l)
/-- The slice v holds the packets l. -/
def PHas (w : World) (v : Value) (l : List PW) : Prop :=
  (l = [] ∧ ∃ a cap, v = .slice a 0 cap ∧ (a = none → cap = 0) ∧ ∀ x, a = some x → x.spot = none) ∨ ∃ g o cap cur, v = .slice (some ⟨g, o, none⟩) l.length cap ∧ l.length ≤ cap ∧ w.heap[g]? = some (.cells cur TPK (0, 0)) ∧ RAt pcs 12 w g o l
theorem PHas.grows {w w' : World} {v : Value} {l : List PW} (h : PHas w v l) (hg : Grows w w') : PHas w' v l := by
  rcases h with h | ⟨g, o, cap, cur, h1, h2, h3, h4⟩
  · exact .inl h
  · exact .inr ⟨g, o, cap, cur, h1, h2, box_grows h3 hg, h4.grows hg (box_lt h3)⟩
theorem PHas.chg {S : Nat → Prop} {w w' : World} {v : Value} {l : List PW} (h : PHas w v l) (hc : Chg S w w') (hS : ∀ g cur, w.heap[g]? = some (.cells cur TPK (0, 0)) → ¬ S g) : PHas w' v l := by
  rcases h with h | ⟨g, o, cap, cur, h1, h2, h3, h4⟩
  · exact .inl h
  · exact .inr ⟨g, o, cap, cur, h1, h2, box_chg h3 hc (hS g cur h3), h4.chg hc (box_lt h3) (hS g cur h3)⟩
theorem PHas.len {w : World} {v : Value} {l : List PW} {n : Nat} (h : PHas w v l) (hn : l.length = n) : ∃ a cap, v = .slice a n cap := by
  subst hn
  rcases h with ⟨rfl, a, cap, rfl, _⟩ | ⟨g, o, cap, cur, h, _⟩
  · exact ⟨a, cap, rfl⟩
  · exact ⟨_, cap, h⟩
theorem PHas.form {w : World} {v : Value} {l : List PW} {n : Nat} (h : PHas w v l) (hn : l.length = n) (h0 : 0 < n) : ∃ g o cap, v = .slice (some ⟨g, o, none⟩) n cap ∧ n ≤ cap ∧ g < w.heap.size ∧ RAt pcs 12 w g o l := by
  subst hn
  rcases h with ⟨rfl, _⟩ | ⟨g, o, cap, cur, h1, h2, h3, h4⟩
  · simp at h0
  · exact ⟨g, o, cap, h1, h2, box_lt h3, h4⟩
theorem pown_has {w : World} {base : Nat} {v : Value} {l : List PW} (h : POwn w base v l) : PHas w v l := by
  rcases own_rows (f := pcs) (k := 12) (fun _ => rfl) rfl h with ⟨rfl, rfl⟩ | ⟨g, cap, hv, h1, _, _, h4⟩
  · exact .inl ⟨rfl, _, _, rfl, fun _ => rfl, fun x e => by cases e⟩
  · rcases h.2 with ⟨h5, _⟩ | ⟨g', cap', cur, hv', _, hg, _⟩
    · rw [hv] at h5; cases h5
    · rw [hv] at hv'
      simp only [Value.slice.injEq, Option.some.injEq, Addr.mk.injEq, and_true, true_and] at hv'
      obtain ⟨rfl, -⟩ := hv'
      exact .inr ⟨g, 0, cap, cur, hv, h1, hg, h4⟩
theorem pat_cells {w : World} {g o : Nat} {l : List PW} (h : RAt pcs 12 w g o l) (i : Nat) (hi : i < l.length) : w.cell? ⟨g, o + i * 12, none⟩ = some (.int .i64 l[i].kd) ∧ w.cell? ⟨g, o + i * 12 + 1, none⟩ = some (.int .i64 l[i].k.t) ∧ w.cell? ⟨g, o + i * 12 + 2, none⟩ = some (.int .i64 l[i].k.f) ∧ w.cell? ⟨g, o + i * 12 + 3, none⟩ = some (.int .u32 l[i].k.s) ∧
    w.cell? ⟨g, o + i * 12 + 4, none⟩ = some (.int .i64 l[i].hp) ∧ w.cell? ⟨g, o + i * 12 + 5, none⟩ = some (.int .i64 l[i].no) ∧ w.cell? ⟨g, o + i * 12 + 6, none⟩ = some (.int .i64 l[i].dt) ∧ w.cell? ⟨g, o + i * 12 + 7, none⟩ = some (.int .i64 l[i].ix) ∧
    w.cell? ⟨g, o + i * 12 + 8, none⟩ = some (.int .i64 l[i].tt) ∧ w.cell? ⟨g, o + i * 12 + 9, none⟩ = some (.int .i64 l[i].st) ∧ w.cell? ⟨g, o + i * 12 + 10, none⟩ = some (.int .i64 l[i].vl) ∧ w.cell? ⟨g, o + i * 12 + 11, none⟩ = some l[i].body :=
  ⟨h i hi 0 (by omega), h i hi 1 (by omega), h i hi 2 (by omega), h i hi 3 (by omega), h i hi 4 (by omega), h i hi 5 (by omega), h i hi 6 (by omega), h i hi 7 (by omega), h i hi 8 (by omega), h i hi 9 (by omega), h i hi 10 (by omega), h i hi 11 (by omega)⟩
/-- What an append takes from: nothing, or cells that read so. -/
def PSrc (w : World) (u : Value) (m : List PW) : Prop := (m = [] ∧ u = .slice none 0 0) ∨ ∃ a c, u = .slice (some a) m.length c ∧ ∀ j x, (pvs m)[j]? = some x → w.cell? (a.add j) = some x
theorem psrc_at {w : World} {g o : Nat} {l : List PW} (h : RAt pcs 12 w g o l) (i c : Nat) : PSrc w (.slice (some ⟨g, o + i * 12, none⟩) (l.drop i).length c) (l.drop i) := by
  refine .inr ⟨_, _, rfl, fun j x hj => ?_⟩
  have hl := (List.getElem?_eq_some_iff.1 hj).1
  rw [pvs_length, List.length_drop] at hl
  rw [addr_add]
  have h5 := h (i + j / 12) (by omega) (j % 12) (Nat.mod_lt _ (by omega))
  rw [show o + (i + j / 12) * 12 + j % 12 = o + i * 12 + j by omega] at h5
  rw [h5]
  have h6 := rows_get (f := pcs) (k := 12) (fun _ => rfl) (l.drop i) (j / 12) (by rw [List.length_drop]; omega) (j % 12) (Nat.mod_lt _ (by omega))
  rw [show j / 12 * 12 + j % 12 = j by omega] at h6
  rw [List.getElem_drop] at h6
  rw [← h6]
  exact hj
theorem psrc_take {w : World} {g o : Nat} {l : List PW} (h : RAt pcs 12 w g o l) (i c : Nat) : PSrc w (.slice (some ⟨g, o, none⟩) (l.take i).length c) (l.take i) := by
  refine .inr ⟨_, _, rfl, fun j x hj => ?_⟩
  have hl := (List.getElem?_eq_some_iff.1 hj).1
  rw [pvs_length, List.length_take] at hl
  rw [addr_add]
  have h5 := h (j / 12) (by omega) (j % 12) (Nat.mod_lt _ (by omega))
  rw [show o + j / 12 * 12 + j % 12 = o + j by omega] at h5
  rw [h5]
  have h6 := rows_get (f := pcs) (k := 12) (fun _ => rfl) (l.take i) (j / 12) (by rw [List.length_take]; omega) (j % 12) (Nat.mod_lt _ (by omega))
  rw [show j / 12 * 12 + j % 12 = j by omega, List.getElem_take] at h6
  rw [← h6]
  exact hj
theorem psrc_nil (w : World) (a : Option Addr) (c : Nat) (h : a = none → c = 0) : PSrc w (.slice a 0 c) [] := by
  cases a with
  | none => rw [h rfl]; exact .inl ⟨rfl, rfl⟩
  | some a => exact .inr ⟨a, c, rfl, fun j x hj => by simp [pvs] at hj⟩
/-- Packets appended to packets of one's own. -/
theorem papp_run {W : World} {base : Nat} {v u : Value} {l m : List PW} (ho : POwn W base v l) (hs : PSrc W u m) (hm : l.length + m.length ≤ 100000) (hb : base ≤ W.heap.size) :
    ∃ v' W', (∀ ty, (Builtin.append_ #[TSP, TSP] ty #[v, u]).run Try.prog W = .ok v' W') ∧ POwn W' base v' (l ++ m) ∧ W.grownBy W' v.ownBlock := by
  obtain ⟨i0, hi, hz⟩ : ∃ i, Try.prog.info? TPK = some i ∧ (i.zero, i.size, i.bytes) = (some PZ, 12, 112) := Option.map_eq_some_iff.1 Try.infoPkt
  simp only [Prod.mk.injEq] at hz
  obtain ⟨hz0, hz1, hz2⟩ := hz
  rcases hs with ⟨rfl, rfl⟩ | ⟨a, c, rfl, hc⟩
  · refine ⟨v, W, fun ty => run_append_owned_none W base _ ty TPK i0 12 Try.underlying87 hi v l.length (pvs l) ho, by simpa using ho, ?_⟩
    exact ⟨rfl, rfl, rfl, Nat.le_refl _, fun _ _ _ => rfl⟩
  · obtain ⟨v', W', h1, h2, h3, -⟩ := run_append_own (P := Try.prog) W base TSP 0 TPK i0 _ 12 112 Try.underlying87 hi hz0 hz1 hz2 rfl (by decide) v l.length (pvs l) ho a m.length c (pvs m) (pvs_length m) hc (pvs_one m)
      (by unfold maxLen; omega) (by omega) hb
    refine ⟨v', W', fun _ => h1, ?_, h3⟩
    show W'.ownsRow base _ 12 v' (l ++ m).length (pvs (l ++ m))
    rw [pvs_append, List.length_append]
    exact h2
theorem POwn.lt' {w : World} {base : Nat} {v : Value} {l : List PW} {n : Nat} (h : POwn w base v l) (hn : l.length = n) : ∃ a cap, v = .slice a n cap := (pown_has h).len hn
/-- The document's history, as a value. -/
abbrev dcs (v : Value) (M : Nat) (dl : Int) (last : KW) (sm : Bool) : Array Value := #[v, .int .i64 (M : Int), .int .i64 dl, .int .i64 last.t, .int .i64 last.f, .int .u32 last.s, .bool sm]
abbrev DV (v : Value) (M : Nat) (dl : Int) (last : KW) (sm : Bool) : Value := .agg (dcs v M dl last sm)
/-- What the document has: packets in order, their bytes in rows of their own. -/
structure DocH (w : World) (base : Nat) (v : Value) (l : List HW) : Prop where
  rows : PHas w v (l.map (·.1))
  bod : ∀ h ∈ l, BRow w base h.1.body h.2
theorem DocH.grows {w w' : World} {base : Nat} {v : Value} {l : List HW} (h : DocH w base v l) (hg : Grows w w') : DocH w' base v l := ⟨h.rows.grows hg, fun u hu => own_grows (h.bod u hu) hg⟩
theorem DocH.chg {S : Nat → Prop} {w w' : World} {base : Nat} {v : Value} {l : List HW} (h : DocH w base v l) (hc : Chg S w w') (h1 : ∀ g cur, w.heap[g]? = some (.cells cur TPK (0, 0)) → ¬ S g) (h2 : ∀ g cur, w.heap[g]? = some (.cells cur 5 (0, 0)) → ¬ S g) : DocH w' base v l :=
  ⟨h.rows.chg hc h1, fun u hu => hc.own (h.bod u hu) fun j hj => by obtain ⟨cur, hg⟩ := brow_ty (h.bod u hu) hj; exact h2 j cur hg⟩
theorem DocH.len {w : World} {base : Nat} {v : Value} {l : List HW} {n : Nat} (h : DocH w base v l) (hn : l.length = n) : ∃ a cap, v = .slice a n cap := h.rows.len (by rw [List.length_map]; exact hn)
theorem rclampD_any (x : Int) (w : World) : Calls Try.prog 81 #[.int .i64 x, .int .i64 0, .int .i64 1152921504606846976] w (fun e w' => e = .returned (.int .i64 (clampD x)) ∧ w = w') := by
  by_cases h1 : x < 0
  · rw [show clampD x = 0 by unfold clampD; rw [if_pos h1]]
    go_enter Try.func81, Try.ntmps81
    go_wp2
    go_ret
    exact ⟨rfl, rfl⟩
  · by_cases h2 : 1152921504606846976 < x
    · rw [show clampD x = 1152921504606846976 by unfold clampD; rw [if_neg h1, if_pos h2]]
      go_enter Try.func81, Try.ntmps81
      go_wp2
      go_ret
      exact ⟨rfl, rfl⟩
    · rw [show clampD x = x by unfold clampD; rw [if_neg h1, if_neg h2]]
      go_enter Try.func81, Try.ntmps81
      go_wp2
      go_ret
      exact ⟨rfl, rfl⟩
theorem rkgood_any (k : KW) (w : World) : Calls Try.prog 82 #[k.val] w (RetV w (.bool (goodK k))) := by
  have HG := Lib.hid (bl_alloc (Below.refl _ _) _ : Grows w (w.alloc (.cells #[.int .i64 k.t, .int .i64 k.f, .int .u32 k.s] 29)))
  unfold goodK
  by_cases h1 : 0 ≤ k.t
  · by_cases h2 : k.t ≤ 1152921504606846976
    · by_cases h3 : 0 ≤ k.f
      · by_cases h4 : k.f < 64
        · rw [decide_eq_true h1, decide_eq_true h2, decide_eq_true h3, decide_eq_true h4]
          go_enter Try.func82, Try.ntmps82
          go_wp2_with fail
          go_ret
          exact ⟨rfl, HG.out⟩
        · rw [decide_eq_true h1, decide_eq_true h2, decide_eq_true h3, decide_eq_false h4]
          go_enter Try.func82, Try.ntmps82
          go_wp2_with fail
          go_ret
          exact ⟨rfl, HG.out⟩
      · rw [decide_eq_true h1, decide_eq_true h2, decide_eq_false h3]
        go_enter Try.func82, Try.ntmps82
        go_wp2_with fail
        go_ret
        exact ⟨rfl, HG.out⟩
    · rw [decide_eq_true h1, decide_eq_false h2]
      go_enter Try.func82, Try.ntmps82
      go_wp2_with fail
      go_ret
      exact ⟨rfl, HG.out⟩
  · rw [decide_eq_false h1]
    go_enter Try.func82, Try.ntmps82
    go_wp2_with fail
    go_ret
    exact ⟨rfl, HG.out⟩
/-- The world with a history of the document stored. -/
abbrev st7 (w : World) (b : Nat) (v : Value) (M : Nat) (dl : Int) (last : KW) (sm : Bool) : World :=
  ((((((w.setCell ⟨b, 0, none⟩ v).setCell ⟨b, 1, none⟩ (.int .i64 (M : Int))).setCell ⟨b, 2, none⟩ (.int .i64 dl)).setCell ⟨b, 3, none⟩ (.int .i64 last.t)).setCell ⟨b, 4, none⟩ (.int .i64 last.f)).setCell ⟨b, 5, none⟩ (.int .u32 last.s)).setCell ⟨b, 6, none⟩ (.bool sm)
theorem st7_box {w : World} {b : Nat} {c0 c1 c2 c3 c4 c5 c6 v : Value} {M : Nat} {dl : Int} {last : KW} {sm : Bool} {T : TypeId} (h : w.heap[b]? = some (.cells #[c0, c1, c2, c3, c4, c5, c6] T (0, 0))) : (st7 w b v M dl last sm).heap[b]? = some (.cells (dcs v M dl last sm) T (0, 0)) := by
  have h0 := box_setj (j := 0) (v := v) h
  have h1 := box_setj (j := 1) (v := .int .i64 (M : Int)) h0
  have h2 := box_setj (j := 2) (v := .int .i64 dl) h1
  have h3 := box_setj (j := 3) (v := .int .i64 last.t) h2
  have h4 := box_setj (j := 4) (v := .int .i64 last.f) h3
  have h5 := box_setj (j := 5) (v := .int .u32 last.s) h4
  exact box_setj (j := 6) (v := .bool sm) h5
theorem st7_chg (w : World) (b : Nat) (v : Value) (M : Nat) (dl : Int) (last : KW) (sm : Bool) : Chg (fun j => j = b) w (st7 w b v M dl last sm) := by
  unfold st7
  repeat (refine Chg.setCell ?_ _ (.inr rfl))
  exact Chg.refl _ _
/-- The cells of such a box; none is frozen. -/
def DAt (w : World) (b : Nat) (c : Array Value) : Prop := ∀ i v, c[i]? = some v → w.cell? ⟨b, i, none⟩ = some v ∧ w.frozen? ⟨b, i, none⟩ = false
theorem dz_new (w : World) : (w.alloc (.cells #[.slice none 0 0, .int .i64 0, .int .i64 0, .int .i64 0, .int .i64 0, .int .u32 0, .bool false] TRH)).heap[w.heap.size]? = some (.cells #[.slice none 0 0, .int .i64 0, .int .i64 0, .int .i64 0, .int .i64 0, .int .u32 0, .bool false] TRH (0, 0)) := heap_alloc_new w _
theorem rhnew_any (n d : Int) (w : World) : Calls Try.prog 49 #[.int .i64 n, .int .i64 d] w (RetV w (DV (.slice none 0 0) (mostOfP n) (clampD d) ⟨0, 0, 0⟩ false)) := by
  obtain ⟨k, ek⟩ : ∃ k, mostOfP n = k := ⟨_, rfl⟩
  have h3 : (n < 0 ∧ k = 0) ∨ (0 ≤ n ∧ n ≤ 65536 ∧ n = (k : Int)) ∨ (65536 < n ∧ k = 65536) := by rw [← ek]; unfold mostOfP; omega
  have HC := Lib.hid (fun W => rclampD_any d W)
  obtain ⟨D, eD⟩ : ∃ D, clampD d = D := ⟨_, rfl⟩
  rw [eD] at HC
  rw [eD, ek]
  clear ek eD
  rcases h3 with ⟨h1, rfl⟩ | ⟨h1, h2, rfl⟩ | ⟨h1, rfl⟩
  all_goals (
    go_enter Try.func49, Try.ntmps49
    go_wp2_with fail
    refine (HC.out _).mono ?_
    rintro e w2 ⟨rfl, rfl⟩
    go_wp2_with fail)
  all_goals (
    refine bodyPost_ret (v := _) (by simp [results, Try.results49, go_sem]; rfl) rfl ?_
    exact ⟨rfl, by show Below w.heap.size w _; (repeat (first | with_reducible exact Below.refl _ _ | with_reducible refine bl_alloc ?_ _ | ((with_reducible refine bl_set ?_ ?_ _); rotate_left; (first | exact Nat.le_refl _ | exact Nat.le_succ_of_le (Nat.le_refl _) | (simp only []; omega))) | with_reducible refine bl_drewN ?_ _ | with_reducible refine bl_drew ?_ | with_reducible refine bl_reg ?_ _))⟩)
end Go.Proofs.Ytdmmceclohkkdaa
namespace Go.Proofs.Ytdmmceclohkkdaa
open Go.RowKit Go.Sort
set_option maxHeartbeats 4000000
set_option maxRecDepth 100000
section
attribute [-go_sem] run_eql_struct run_neq_struct
theorem rsame_any (x : PW) (ba : Option Addr) (bl bc : Nat) (b : List Int) (w : World) (hx : BHas w x.ba x.bl x.bc b) (hy : BHas w ba bl bc b) :
    Calls Try.prog 52 #[x.val, (x.at' ba bl bc).val] w (RetV w (.bool true)) := by
  obtain ⟨W, eW⟩ : ∃ W, (w.alloc (.cells x.cells TPK)).alloc (.cells (x.at' ba bl bc).cells TPK) = W := ⟨_, rfl⟩
  have hn := two_new w (.cells x.cells TPK) (.cells (x.at' ba bl bc).cells TPK)
  have hg : Grows w W := by rw [← eW]; exact bl_alloc (bl_alloc (Below.refl _ _) _) _
  rw [eW] at hn
  have c1 := conv_bytes (hx.grows hg)
  have c2 := conv_bytes (hy.grows hg)
  have HG := Lib.hid hg
  have hk := key_eql x.k x.k W
  simp only [decide_true] at hk
  obtain ⟨x0, x1, x2, x3, x4, x5, x6, x7, x8, x9, x10, x11, x12⟩ := pat_of hn.1
  obtain ⟨y0, y1, y2, y3, y4, y5, y6, y7, y8, y9, y10, y11, y12⟩ := pat_of hn.2
  simp only [PW.cells, PW.body, PW.at'] at eW
  clear hx hy hg hn
  simp only [PW.val, PW.cells, PW.body, PW.at']
  go_enter Try.func52, Try.ntmps52
  go_wp2_with fail
  go_ret
  exact ⟨rfl, HG.out⟩
end
/-- How many packets of a node are of a kind. -/
def cntP (l : List PW) (f kd : Int) : Nat := (l.filter fun x => decide (x.k.f = f) && decide (x.kd = kd)).length
theorem cntP_snoc (l : List PW) (y : PW) (f kd : Int) : cntP (l ++ [y]) f kd = cntP l f kd + (if y.k.f = f ∧ y.kd = kd then 1 else 0) := by
  unfold cntP
  rw [List.filter_append, List.length_append]
  congr 1
  by_cases h1 : y.k.f = f <;> by_cases h2 : y.kd = kd <;> simp [h1, h2]
theorem cntP_le (l : List PW) (f kd : Int) : cntP l f kd ≤ l.length := List.length_filter_le _ _
theorem rmine_any {v : Value} {l : List PW} {w : World} {M : Nat} {dl : Int} {last : KW} {sm : Bool} (f kd : Int) (h : PHas w v l) (hm : l.length ≤ 10000) :
    Calls Try.prog 54 #[DV v M dl last sm, .int .i64 f, .int .i64 kd] w (RetV w (.int .i64 (cntP l f kd : Nat))) := by
  obtain ⟨n, en⟩ : ∃ n, l.length = n := ⟨_, rfl⟩
  obtain ⟨a, cap, rfl⟩ := h.len en
  obtain ⟨W, eW⟩ : ∃ W, w.alloc (.cells (dcs (.slice a n cap) M dl last sm) TRH) = W := ⟨_, rfl⟩
  have hb := heap_alloc_new w (.cells (dcs (.slice a n cap) M dl last sm) TRH)
  have hg : Grows w W := by rw [← eW]; exact bl_alloc (Below.refl _ _) _
  rw [eW] at hb
  have HH := Lib.hid (h.grows hg)
  have HG := Lib.hid hg
  have EN := Lib.hid en
  have HM := Lib.hid hm
  obtain ⟨s0, -⟩ := cell_in hb 0 rfl
  have z1 := box_lt hb
  have HTK := Lib.hid (fun i (hi : i < l.length) => show l.take (i + 1) = l.take i ++ [l[i]] from List.take_succ_eq_append_getElem hi)
  simp only [dcs] at eW
  clear h hm en hg hb
  simp only [DV, dcs]
  go_enter Try.func54, Try.ntmps54
  go_wp2_with fail
  clear eW
  go_loopw [7, 8] (fun nv iv wr => Shut33 (∃ i : Nat, wr = W ∧ nv = .int .i64 (cntP (l.take i) f kd : Nat) ∧ iv = .int .i64 (i : Int) ∧ i ≤ n)) (fun _ iv _ => n - (intOf iv).toNat)
  case atStart => exact ⟨⟨0, rfl, by simp [cntP], rfl, Nat.zero_le _⟩⟩
  case round =>
    obtain ⟨i, rfl, rfl, rfl, hi⟩ := hrel.out
    clear hrel
    by_cases hlt : i < n
    · have hn6 : i ≤ 1000000 := Nat.le_trans (Nat.le_of_lt hlt) (by rw [← EN.out]; exact Nat.le_trans HM.out (by decide))
      have HNF := Lib.hid (nat_facts i hn6)
      have HWS := Lib.hid (wrap_succ hn6)
      have HLT := Lib.hid hlt
      have hnl : i < l.length := by rw [EN.out]; exact hlt
      obtain ⟨g, o, c', he, hcap, hgl, hat⟩ := HH.out.form EN.out (Nat.lt_of_le_of_lt (Nat.zero_le _) hlt)
      simp only [Value.slice.injEq, true_and] at he
      obtain ⟨rfl, rfl⟩ := he
      obtain ⟨p0, p1, p2, -⟩ := pat_cells hat i hnl
      have htk := HTK.out i hnl
      obtain ⟨y, ey⟩ : ∃ y, l[i] = y := ⟨_, rfl⟩
      rw [ey] at p0 p1 p2 htk
      have hki : (i : Int) < (n : Int) := Int.ofNat_lt.2 hlt
      have hs := cntP_snoc (l.take i) y f kd
      have hcl := cntP_le (l.take i) f kd
      rw [← htk] at hs
      obtain ⟨c, ec⟩ : ∃ c, cntP (l.take i) f kd = c := ⟨_, rfl⟩
      rw [ec] at hs hcl
      have hc6 : c ≤ 1000000 := by
        have := List.length_take_le i l
        omega
      have HCS := Lib.hid (wrap_succ hc6)
      have HS := Lib.hid hs
      rw [ec]
      clear ey htk hat hnl hcap hlt hn6 hi hs hcl hc6 ec
      obtain ⟨j1, j2, j3, j4, j6⟩ := HNF.out
      have hd : ((y.k.f == f) = false ∧ ¬ (y.k.f = f ∧ y.kd = kd)) ∨ ((y.k.f == f) = true ∧ (y.kd == kd) = false ∧ ¬ (y.k.f = f ∧ y.kd = kd)) ∨ ((y.k.f == f) = true ∧ (y.kd == kd) = true ∧ (y.k.f = f ∧ y.kd = kd)) := by
        by_cases h1 : y.k.f = f
        · by_cases h2 : y.kd = kd
          · exact .inr (.inr ⟨beq_iff_eq.2 h1, beq_iff_eq.2 h2, h1, h2⟩)
          · exact .inr (.inl ⟨beq_iff_eq.2 h1, beq_false_of_ne h2, fun h => h2 h.2⟩)
        · exact .inl ⟨beq_false_of_ne h1, fun h => h1 h.1⟩
      rcases hd with ⟨h1, hno⟩ | ⟨h1, h2, hno⟩ | ⟨h1, h2, hyes⟩
      · have HE := Lib.hid (show cntP (l.take (i + 1)) f kd = c by rw [HS.out, if_neg hno, Nat.add_zero])
        clear hno
        go_wp2_with fail
        go_roundw
        case rel => exact ⟨⟨i + 1, trivial, by rw [HE.out], by rw [HWS.out]; rfl, HLT.out⟩⟩
        case measure => rw [HWS.out]; exact meas_succ HLT.out
      · have HE := Lib.hid (show cntP (l.take (i + 1)) f kd = c by rw [HS.out, if_neg hno, Nat.add_zero])
        clear hno
        go_wp2_with fail
        go_roundw
        case rel => exact ⟨⟨i + 1, trivial, by rw [HE.out], by rw [HWS.out]; rfl, HLT.out⟩⟩
        case measure => rw [HWS.out]; exact meas_succ HLT.out
      · have HE := Lib.hid (show cntP (l.take (i + 1)) f kd = c + 1 by rw [HS.out, if_pos hyes])
        clear hyes
        go_wp2_with fail
        go_roundw
        case rel => exact ⟨⟨i + 1, trivial, by rw [HE.out, HCS.out]; rfl, by rw [HWS.out]; rfl, HLT.out⟩⟩
        case measure => rw [HWS.out]; exact meas_succ HLT.out
    · obtain rfl : i = n := Nat.le_antisymm hi (Nat.le_of_not_lt hlt)
      have htk : l.take i = l := List.take_of_length_le (by rw [EN.out]; exact Nat.le_refl _)
      rw [htk]
      clear hlt hi htk
      go_wp2_with fail
      go_ret
      exact ⟨rfl, HG.out⟩
end Go.Proofs.Ytdmmceclohkkdaa
namespace Go.Proofs.Ytdmmceclohkkdaa
open Go.RowKit Go.Sort
set_option maxHeartbeats 4000000
set_option maxRecDepth 100000
/-- The cells of a box of the document's history. -/
def HAt7 (w : World) (b : Nat) (v : Value) (M : Nat) (dl : Int) (last : KW) (sm : Bool) : Prop :=
  w.cell? ⟨b, 0, none⟩ = some v ∧ w.cell? ⟨b, 1, none⟩ = some (.int .i64 (M : Int)) ∧ w.cell? ⟨b, 2, none⟩ = some (.int .i64 dl) ∧ w.cell? ⟨b, 3, none⟩ = some (.int .i64 last.t) ∧ w.cell? ⟨b, 4, none⟩ = some (.int .i64 last.f) ∧ w.cell? ⟨b, 5, none⟩ = some (.int .u32 last.s) ∧ w.cell? ⟨b, 6, none⟩ = some (.bool sm) ∧ b < w.heap.size
theorem hat7_of {w : World} {b : Nat} {v : Value} {M : Nat} {dl : Int} {last : KW} {sm : Bool} {T : TypeId} (h : w.heap[b]? = some (.cells (dcs v M dl last sm) T (0, 0))) : HAt7 w b v M dl last sm :=
  ⟨(cell_in h 0 rfl).1, (cell_in h 1 rfl).1, (cell_in h 2 rfl).1, (cell_in h 3 rfl).1, (cell_in h 4 rfl).1, (cell_in h 5 rfl).1, (cell_in h 6 rfl).1, box_lt h⟩
def HFree7 (w : World) (b : Nat) : Prop :=
  w.frozen? ⟨b, 0, none⟩ = false ∧ w.frozen? ⟨b, 1, none⟩ = false ∧ w.frozen? ⟨b, 2, none⟩ = false ∧ w.frozen? ⟨b, 3, none⟩ = false ∧ w.frozen? ⟨b, 4, none⟩ = false ∧ w.frozen? ⟨b, 5, none⟩ = false ∧ w.frozen? ⟨b, 6, none⟩ = false
theorem hfree7_of {w : World} {b : Nat} {c0 c1 c2 c3 c4 c5 c6 : Value} {T : TypeId} (h : w.heap[b]? = some (.cells #[c0, c1, c2, c3, c4, c5, c6] T (0, 0))) : HFree7 w b :=
  ⟨(cell_in h 0 rfl).2, (cell_in h 1 rfl).2, (cell_in h 2 rfl).2, (cell_in h 3 rfl).2, (cell_in h 4 rfl).2, (cell_in h 5 rfl).2, (cell_in h 6 rfl).2⟩
/-- A history of nothing, as a box has it at first. -/
abbrev dz : Array Value := #[.slice none 0 0, .int .i64 0, .int .i64 0, .int .i64 0, .int .i64 0, .int .u32 0, .bool false]
theorem hat7z_of {w : World} {b : Nat} {T : TypeId} (h : w.heap[b]? = some (.cells dz T (0, 0))) :
    w.cell? ⟨b, 0, none⟩ = some (.slice none 0 0) ∧ w.cell? ⟨b, 1, none⟩ = some (.int .i64 0) ∧ w.cell? ⟨b, 2, none⟩ = some (.int .i64 0) ∧ w.cell? ⟨b, 3, none⟩ = some (.int .i64 0) ∧ w.cell? ⟨b, 4, none⟩ = some (.int .i64 0) ∧ w.cell? ⟨b, 5, none⟩ = some (.int .u32 0) ∧ w.cell? ⟨b, 6, none⟩ = some (.bool false) ∧ b < w.heap.size :=
  ⟨(cell_in h 0 rfl).1, (cell_in h 1 rfl).1, (cell_in h 2 rfl).1, (cell_in h 3 rfl).1, (cell_in h 4 rfl).1, (cell_in h 5 rfl).1, (cell_in h 6 rfl).1, box_lt h⟩
theorem three_at (w : World) (A B C : Obj) (b : Nat) (eb : w.heap.size = b) : ∃ W, ((w.alloc A).alloc B).alloc C = W ∧ W.heap[b]? = some A ∧ W.heap[b + 1]? = some B ∧ W.heap[b + 1 + 1]? = some C ∧ Grows w W := by
  subst eb
  have h1 := two_new w A B
  have h2 := heap_alloc_new ((w.alloc A).alloc B) C
  have g : Grows ((w.alloc A).alloc B) (((w.alloc A).alloc B).alloc C) := bl_alloc (Below.refl _ _) _
  refine ⟨_, rfl, box_grows h1.1 g, box_grows h1.2 g, ?_, bl_alloc (bl_alloc (bl_alloc (Below.refl _ _) _) _) _⟩
  simp only [World.size_alloc] at h2
  exact h2
section
variable {v : Value} {l : List HW} {w : World} {base M : Nat} {dl : Int} {last : KW} {sm : Bool}
/-- The end of Pop: both results are stored. -/
theorem pop_end {w W : World} {b : Nat} {v : Value} {M : Nat} {dl : Int} {last : KW} {sm : Bool} (x : PW) (eb : w.heap.size = b) (hg : Grows w W) (h1 : W.heap[b + 1]? = some (.cells dz TRH (0, 0))) (h2 : W.heap[b + 1 + 1]? = some (.cells pz.cells TPK (0, 0))) :
    ∃ W', st12 (st7 W (b + 1) v M dl last sm) (b + 1 + 1) x = W' ∧ HAt7 W' (b + 1) v M dl last sm ∧ PAt W' (b + 1 + 1) x ∧ Grows w W' := by
  have h3 := st7_box (v := v) (M := M) (dl := dl) (last := last) (sm := sm) h1
  have hc := st7_chg W (b + 1) v M dl last sm
  have h4 := box_chg h2 hc (by omega)
  have h5 := st12_box (x := x) h4
  have hc2 := st12_chg (st7 W (b + 1) v M dl last sm) (b + 1 + 1) x
  have h6 := box_chg h3 hc2 (by omega)
  exact ⟨_, rfl, hat7_of h6, pat_of h5, grows_of_chg (grows_of_chg hg hc (fun j hj => by omega)) hc2 (fun j hj => by omega)⟩
theorem rpop_no (now : Int) (h : PHas w v (l.map (·.1))) (hd : ∀ x ∈ l.head?, now < wrap64 (x.1.k.t + dl)) :
    Calls Try.prog 51 #[DV v M dl last sm, .int .i64 now] w (RetV w (.tuple #[DV v M dl last sm, PZ, .bool false])) := by
  obtain ⟨b, eb⟩ : ∃ b, w.heap.size = b := ⟨_, rfl⟩
  obtain ⟨W, eW, hb0, hb1, hb2, hg⟩ := three_at w (.cells (dcs v M dl last sm) TRH) (.cells dz TRH) (.cells pz.cells TPK) b eb
  obtain ⟨s0, s1, s2, s3, s4, s5, s6, s7⟩ := hat7_of hb0
  obtain ⟨f0, f1, f2, f3, f4, f5, f6⟩ := hfree7_of hb1
  obtain ⟨m0, m1, m2, m3, m4, m5, m6, m7⟩ := hat7z_of hb1
  obtain ⟨y0, y1, y2, y3, y4, y5, y6, y7, y8, y9, y10, y11⟩ := pfree_of hb2
  obtain ⟨x0, x1, x2, x3, x4, x5, x6, x7, x8, x9, x10, x11, x12⟩ := pat_of hb2
  have HE := Lib.hid (fun W2 (hw : Grows w W2) h1 h2 => pop_end (v := v) (M := M) (dl := dl) (last := last) (sm := sm) pz eb (W := W2) hw h1 h2)
  have HB := Lib.hid (And.intro hg (And.intro hb1 hb2))
  have HB0 := Lib.hid hb0
  have q1 : (b + 1 = b) = False := eq_false (by omega)
  have q2 : (b + 1 + 1 = b) = False := eq_false (by omega)
  have q3 : (b + 1 + 1 = b + 1) = False := eq_false (by omega)
  have q4 : (b = b + 1) = False := eq_false (by omega)
  have q5 : (b = b + 1 + 1) = False := eq_false (by omega)
  have q6 : (b + 1 = b + 1 + 1) = False := eq_false (by omega)
  have hgW := h.grows hg
  simp only [dcs, dz, PW.cells, PW.body] at eW
  cases l with
  | nil =>
    obtain ⟨a, cap, rfl⟩ := hgW.len (n := 0) rfl
    clear h hg hgW hd hb0 hb1 hb2
    simp only [DV, dcs]
    go_enter Try.func51, Try.ntmps51
    go_wp2_with fail
    refine wp_region_reg (by kernel_rfl) (by kernel_rfl) ?_
    repeat (first | go_big_quiet_step ((fail)) | quiet_step ((fail)))
    refine wpQuiet_nil ?_
    intro _ hcw1
    obtain ⟨pq, hcw2⟩ := hcw1
    subst hcw2
    obtain ⟨W2, eW2, hg2⟩ : ∃ W2, reg W pq = W2 ∧ Grows W W2 := ⟨_, rfl, below_reg _ _⟩
    rw [eW2]
    obtain ⟨W3, e3, i7, i12, gA⟩ := HE.out W2 (grows_trans _ _ _ HB.out.1 hg2) (box_grows HB.out.2.1 hg2) (box_grows HB.out.2.2 hg2)
    clear s0 s1 s2 s3 s4 s5 s6 s7 f0 f1 f2 f3 f4 f5 f6 m0 m1 m2 m3 m4 m5 m6 m7 y0 y1 y2 y3 y4 y5 y6 y7 y8 y9 y10 y11 x0 x1 x2 x3 x4 x5 x6 x7 x8 x9 x10 x11 x12
    obtain ⟨s0, s1, s2, s3, s4, s5, s6, s7⟩ := hat7_of (box_grows HB0.out hg2)
    obtain ⟨f0, f1, f2, f3, f4, f5, f6⟩ := hfree7_of (box_grows HB.out.2.1 hg2)
    obtain ⟨m0, m1, m2, m3, m4, m5, m6, m7⟩ := hat7z_of (box_grows HB.out.2.1 hg2)
    obtain ⟨y0, y1, y2, y3, y4, y5, y6, y7, y8, y9, y10, y11⟩ := pfree_of (box_grows HB.out.2.2 hg2)
    obtain ⟨x0, x1, x2, x3, x4, x5, x6, x7, x8, x9, x10, x11, x12⟩ := pat_of (box_grows HB.out.2.2 hg2)
    clear hg2 eW2 eW
    have HX := Lib.hid (And.intro i7 (And.intro i12 gA))
    simp only [st12, st7, PW.body] at e3
    clear i7 i12 gA
    go_wp2_with fail
    obtain ⟨⟨i0, i1, i2, i3, i4, i5, i6, i7⟩, ⟨k0, k1, k2, k3, k4, k5, k6, k7, k8, k9, k10, k11, k12⟩, gA⟩ := HX.out
    exact bodyPost_ret (v := .tuple #[DV (.slice a 0 cap) M dl last sm, PZ, .bool false]) (by simp [results, Try.results51, go_sem, i0, i1, i2, i3, i4, i5, i6, k0, k1, k2, k3, k4, k5, k6, k7, k8, k9, k10, k11]) rfl ⟨rfl, gA⟩
  | cons x l =>
    obtain ⟨g, o, cap, rfl, hcap, hgl, hat⟩ := hgW.form (n := l.length + 1) (by simp) (Nat.succ_pos _)
    obtain ⟨p0, p1, -⟩ := pat_cells hat 0 (by simp)
    simp only [Nat.zero_mul, Nat.add_zero, List.map_cons, List.getElem_cons_zero] at p0 p1
    obtain ⟨T, eT⟩ : ∃ T, wrap64 (x.1.k.t + dl) = T := ⟨_, rfl⟩
    have hd1 := hd x (by simp)
    rw [eT] at hd1
    have eT2 : IntKind.i64.wrap (x.1.k.t + dl) = T := by rw [wrapEq, eT]
    have hk2 : decide (now < T) = true := decide_eq_true hd1
    have hk3 : ((l.length : Int) + 1 == 0) = false := beq_false_of_ne (by omega)
    have hk4 : (0 : Int) < (l.length : Int) + 1 := by omega
    obtain ⟨n, en⟩ : ∃ n, l.length = n := ⟨_, rfl⟩
    rw [en] at hk3 hk4 s0 eW HE hcap ⊢
    clear h hg hgW hd hb0 hb1 hb2 hat
    simp only [DV, dcs]
    go_enter Try.func51, Try.ntmps51
    go_wp2_with fail
    refine wp_region_reg (by kernel_rfl) (by kernel_rfl) ?_
    repeat (first | go_big_quiet_step ((fail)) | quiet_step ((fail)))
    refine wpQuiet_nil ?_
    intro _ hcw1
    obtain ⟨pq, hcw2⟩ := hcw1
    subst hcw2
    obtain ⟨W2, eW2, hg2⟩ : ∃ W2, reg W pq = W2 ∧ Grows W W2 := ⟨_, rfl, below_reg _ _⟩
    rw [eW2]
    obtain ⟨W3, e3, i7, i12, gA⟩ := HE.out W2 (grows_trans _ _ _ HB.out.1 hg2) (box_grows HB.out.2.1 hg2) (box_grows HB.out.2.2 hg2)
    clear p0 p1 s0 s1 s2 s3 s4 s5 s6 s7 f0 f1 f2 f3 f4 f5 f6 m0 m1 m2 m3 m4 m5 m6 m7 y0 y1 y2 y3 y4 y5 y6 y7 y8 y9 y10 y11 x0 x1 x2 x3 x4 x5 x6 x7 x8 x9 x10 x11 x12
    obtain ⟨s0, s1, s2, s3, s4, s5, s6, s7⟩ := hat7_of (box_grows HB0.out hg2)
    obtain ⟨f0, f1, f2, f3, f4, f5, f6⟩ := hfree7_of (box_grows HB.out.2.1 hg2)
    obtain ⟨m0, m1, m2, m3, m4, m5, m6, m7⟩ := hat7z_of (box_grows HB.out.2.1 hg2)
    obtain ⟨y0, y1, y2, y3, y4, y5, y6, y7, y8, y9, y10, y11⟩ := pfree_of (box_grows HB.out.2.2 hg2)
    obtain ⟨x0, x1, x2, x3, x4, x5, x6, x7, x8, x9, x10, x11, x12⟩ := pat_of (box_grows HB.out.2.2 hg2)
    clear hg2 eW2 eW
    have HX := Lib.hid (And.intro i7 (And.intro i12 gA))
    simp only [st12, st7, PW.body] at e3
    clear i7 i12 gA
    go_wp2_with fail
    obtain ⟨⟨i0, i1, i2, i3, i4, i5, i6, i7⟩, ⟨k0, k1, k2, k3, k4, k5, k6, k7, k8, k9, k10, k11, k12⟩, gA⟩ := HX.out
    exact bodyPost_ret (v := .tuple #[DV (.slice (some ⟨g, o, none⟩) (n + 1) cap) M dl last sm, PZ, .bool false]) (by simp [results, Try.results51, go_sem, i0, i1, i2, i3, i4, i5, i6, k0, k1, k2, k3, k4, k5, k6, k7, k8, k9, k10, k11]) rfl ⟨rfl, gA⟩
/-- The world with the history's row, last key and mark set. -/
abbrev stP (w : World) (b : Nat) (v : Value) (k : KW) : World := ((((w.setCell ⟨b, 0, none⟩ v).setCell ⟨b, 3, none⟩ (.int .i64 k.t)).setCell ⟨b, 4, none⟩ (.int .i64 k.f)).setCell ⟨b, 5, none⟩ (.int .u32 k.s)).setCell ⟨b, 6, none⟩ (.bool true)
theorem stP_box {w : World} {b : Nat} {v v' : Value} {M : Nat} {dl : Int} {last : KW} {sm : Bool} {T : TypeId} (k : KW) (h : w.heap[b]? = some (.cells (dcs v M dl last sm) T (0, 0))) : (stP w b v' k).heap[b]? = some (.cells (dcs v' M dl k true) T (0, 0)) := by
  have h0 := box_setj (j := 0) (v := v') h
  have h1 := box_setj (j := 3) (v := .int .i64 k.t) h0
  have h2 := box_setj (j := 4) (v := .int .i64 k.f) h1
  have h3 := box_setj (j := 5) (v := .int .u32 k.s) h2
  exact box_setj (j := 6) (v := .bool true) h3
theorem stP_chg (w : World) (b : Nat) (v : Value) (k : KW) : Chg (fun j => j = b) w (stP w b v k) := by
  unfold stP
  repeat (refine Chg.setCell ?_ _ (.inr rfl))
  exact Chg.refl _ _
/-- What Pop's copy of the history holds, once the first packet is out. -/
structure PopMid (w W : World) (b : Nat) (v : Value) (M : Nat) (dl : Int) (x : PW) (c : Nat) : Prop where
  b0 : W.heap[b]? = some (.cells (dcs v M dl x.k true) TRH (0, 0))
  b1 : W.heap[b + 1]? = some (.cells dz TRH (0, 0))
  b2 : W.heap[b + 1 + 1]? = some (.cells pz.cells TPK (0, 0))
  c0 : W.heap[c]? = some (.cells x.cells TPK (0, 0))
  g : Grows w W
theorem popMid_of {w W W5 : World} {b c M : Nat} {v V : Value} {dl : Int} {last : KW} {sm : Bool} {x : PW} (eb : w.heap.size = b) (hbc : b + 1 + 1 < c) (h0 : W.heap[b]? = some (.cells (dcs v M dl last sm) TRH (0, 0))) (h1 : W.heap[b + 1]? = some (.cells dz TRH (0, 0))) (h2 : W.heap[b + 1 + 1]? = some (.cells pz.cells TPK (0, 0)))
    (hc : W.heap[c]? = some (.cells x.cells TPK (0, 0))) (hg : Grows w W) (e5 : stP W b V x.k = W5) : PopMid w W5.drew b V M dl x c := by
  have g : Grows W5 W5.drew := bl_drew (Below.refl _ _)
  have k0 := stP_box (v' := V) x.k h0
  have kc := stP_chg W b V x.k
  rw [e5] at k0 kc
  exact ⟨box_grows k0 g, box_grows (box_chg h1 kc (by omega)) g, box_grows (box_chg h2 kc (by omega)) g, box_grows (box_chg hc kc (by omega)) g, grows_trans _ _ _ (grows_of_chg hg kc (fun j hj => by omega)) g⟩
/-- What is left of a row without its first. -/
def tailV (g o n cap : Nat) : Value := if cap = 1 then .slice (some ⟨g, o, none⟩) 0 0 else .slice (some ⟨g, o + 12, none⟩) n (cap - 1)
theorem tail_has {W : World} {g o n cap : Nat} {cur : Array Value} {y : PW} {l : List PW} (hn : l.length = n) (hcap : n + 1 ≤ cap) (hg : W.heap[g]? = some (.cells cur TPK (0, 0))) (hat : RAt pcs 12 W g o (y :: l)) : PHas W (tailV g o n cap) l := by
  unfold tailV
  split
  · rename_i h
    have : l = [] := List.eq_nil_of_length_eq_zero (by omega)
    subst this
    refine .inl ⟨rfl, _, _, rfl, fun e => ?_, fun x e => ?_⟩
    · cases e
    · simp only [Option.some.injEq] at e
      rw [← e]
  · subst hn
    refine .inr ⟨g, o + 12, cap - 1, cur, rfl, by omega, hg, fun i hi j hj => ?_⟩
    have := hat (i + 1) (by simp; omega) j hj
    rw [List.getElem_cons_succ] at this
    rw [← this]
    congr 2
    omega
theorem rpop_yes {x : HW} (now : Int) (h : PHas w v ((x :: l).map (·.1))) (hdue : ¬ now < wrap64 (x.1.k.t + dl)) :
    ∃ v', (∀ W, Grows w W → PHas W v' (l.map (·.1))) ∧ ∀ W, Grows w W → Calls Try.prog 51 #[DV v M dl last sm, .int .i64 now] W (RetV W (.tuple #[DV v' M dl x.1.k true, x.1.val, .bool true])) := by
  obtain ⟨x, bx⟩ := x
  have h0 := h
  rcases h with ⟨h, _⟩ | ⟨g, o, cap, cur, rfl, hcap, hgg, hat⟩
  · simp at h
  obtain ⟨n, en⟩ : ∃ n, l.length = n := ⟨_, rfl⟩
  have hln : (l.map (·.1)).length = n := by rw [List.length_map, en]
  simp only [List.map_cons, List.length_cons, List.length_map, en] at hcap h0 hat ⊢
  refine ⟨tailV g o n cap, fun W hg => tail_has hln hcap (box_grows hgg hg) (hat.grows hg (box_lt hgg)), fun W0 hg0 => ?_⟩
  have hgl := Nat.lt_of_lt_of_le (box_lt hgg) hg0.size
  have hat := hat.grows hg0 (box_lt hgg)
  have hV : ∃ a m c', tailV g o n cap = .slice a m c' := by
    unfold tailV
    split
    · exact ⟨_, _, _, rfl⟩
    · exact ⟨_, _, _, rfl⟩
  obtain ⟨a, m, c', eV⟩ := hV
  rw [eV]
  have EV := Lib.hid eV
  clear h0 hgg hg0 eV
  obtain ⟨b, eb⟩ : ∃ b, W0.heap.size = b := ⟨_, rfl⟩
  obtain ⟨W, eW, hb0, hb1, hb2, hg⟩ := three_at W0 (.cells (dcs (.slice (some ⟨g, o, none⟩) (n + 1) cap) M dl last sm) TRH) (.cells dz TRH) (.cells pz.cells TPK) b eb
  obtain ⟨s0, s1, s2, s3, s4, s5, s6, s7⟩ := hat7_of hb0
  obtain ⟨p0, p1, -⟩ := pat_cells (hat.grows hg hgl) 0 (by simp)
  have hgl1 : g < W.heap.size := Nat.lt_of_lt_of_le hgl hg.size
  simp only [Nat.zero_mul, Nat.add_zero, List.getElem_cons_zero] at p0 p1
  have HP := Lib.hid (fun W2 (hw : Grows W0 W2) => pat_cells (hat.grows hw hgl) 0 (by simp))
  have HGL := Lib.hid hgl
  obtain ⟨T, eT⟩ : ∃ T, wrap64 (x.k.t + dl) = T := ⟨_, rfl⟩
  simp only [eT] at hdue
  have eT2 : IntKind.i64.wrap (x.k.t + dl) = T := by rw [wrapEq, eT]
  have hk2 : decide (now < T) = false := decide_eq_false hdue
  have hk3 : ((n : Int) + 1 == 0) = false := beq_false_of_ne (by omega)
  have hk4 : (0 : Int) < (n : Int) + 1 := by omega
  have HB := Lib.hid (And.intro hg (And.intro hb0 (And.intro hb1 hb2)))
  have EB := Lib.hid eb
  have HC := Lib.hid hcap
  simp only [dcs, dz, PW.cells, PW.body] at eW
  clear hg hb0 hb1 hb2 hat hdue hcap
  simp only [DV, dcs]
  go_enter Try.func51, Try.ntmps51
  go_wp2_with fail
  refine wp_region_reg (by kernel_rfl) (by kernel_rfl) ?_
  repeat (first | go_big_quiet_step ((fail)) | quiet_step ((fail)))
  refine wpQuiet_nil ?_
  intro _ hcw1
  obtain ⟨pq, hcw2⟩ := hcw1
  subst hcw2
  obtain ⟨W2, eW2, hg2⟩ : ∃ W2, reg W pq = W2 ∧ Grows W W2 := ⟨_, rfl, below_reg _ _⟩
  rw [eW2]
  have hb0 := box_grows HB.out.2.1 hg2
  have hb1 := box_grows HB.out.2.2.1 hg2
  have hb2 := box_grows HB.out.2.2.2 hg2
  have hg2 := grows_trans _ _ _ HB.out.1 hg2
  clear s0 s1 s2 s3 s4 s5 s6 s7 p0 p1 hgl1 eW2 eW
  obtain ⟨s0, s1, s2, s3, s4, s5, s6, s7⟩ := hat7_of hb0
  obtain ⟨p0, p1, p2, p3, p4, p5, p6, p7, p8, p9, p10, p11⟩ := HP.out W2 hg2
  have hgl1 : g < W2.heap.size := Nat.lt_of_lt_of_le HGL.out hg2.size
  simp only [Nat.zero_mul, Nat.add_zero, List.getElem_cons_zero, PW.body] at p0 p1 p2 p3 p4 p5 p6 p7 p8 p9 p10 p11
  obtain ⟨c, ec⟩ : ∃ c, W2.heap.size = c := ⟨_, rfl⟩
  have hbc : b + 1 + 1 < c := by rw [← ec]; exact box_lt hb2
  obtain ⟨W3, e3⟩ : ∃ W3, W2.alloc (.cells pz.cells TPK) = W3 := ⟨_, rfl⟩
  have hc3 : W3.heap[c]? = some (.cells pz.cells TPK (0, 0)) := by rw [← e3, ← ec]; exact heap_alloc_new W2 _
  have hg23 : Grows W2 W3 := by rw [← e3]; exact bl_alloc (Below.refl _ _) _
  obtain ⟨y0, y1, y2, y3, y4, y5, y6, y7, y8, y9, y10, y11⟩ := pfree_of hc3
  obtain ⟨x0, x1, x2, x3, x4, x5, x6, x7, x8, x9, x10, x11, x12⟩ := pat_of hc3
  obtain ⟨W4, e4⟩ : ∃ W4, st12 W3 c x = W4 := ⟨_, rfl⟩
  have hc4 : W4.heap[c]? = some (.cells x.cells TPK (0, 0)) := by rw [← e4]; exact st12_box hc3
  have hch : Chg (fun j => j = c) W3 W4 := by rw [← e4]; exact st12_chg _ _ _
  have hb0 := box_chg (box_grows hb0 hg23) hch (by omega)
  have hb1 := box_chg (box_grows hb1 hg23) hch (by omega)
  have hb2 := box_chg (box_grows hb2 hg23) hch (by omega)
  have hg4 : Grows W0 W4 := grows_of_chg (grows_trans _ _ _ hg2 hg23) hch (fun j hj => by omega)
  obtain ⟨t0, t1, t2, t3, t4, t5, t6, t7⟩ := hat7_of hb0
  obtain ⟨f0, f1, f2, f3, f4, f5, f6⟩ := hfree7_of hb0
  obtain ⟨n0, n1, n2, n3, n4, n5, n6, n7, n8, n9, n10, n11, n12⟩ := pat_of hc4
  have H4 := Lib.hid (And.intro hb0 (And.intro hb1 (And.intro hb2 (And.intro hc4 hg4))))
  have hbc0 : b ≠ c := by omega
  have HBC := Lib.hid hbc
  have HBC2 := Lib.hid hbc0.symm
  have hq0 : (b = c) = False := eq_false hbc0
  have hq1 : (c = b) = False := eq_false hbc0.symm
  simp only [PW.cells, PW.body] at e3
  simp only [st12, PW.body] at e4
  clear hg2 hb0 hb1 hb2 hc3 hg23 hc4 hch hg4 hbc hbc0 eb
  go_wp2_with fail
  go_cut [] (fun wx => PopMid W0 wx b (.slice a m c') M dl x c)
  case first =>
    have mixed : Try.prog.follows .mixedOrders = true := by kernel_rfl
    by_cases hc1 : cap = 1
    · have eV := EV.out
      unfold tailV at eV
      rw [if_pos hc1] at eV
      simp only [Value.slice.injEq] at eV
      obtain ⟨rfl, rfl, rfl⟩ := eV
      obtain ⟨W5, e5⟩ : ∃ W5, stP W4 b (.slice (some ⟨g, o, none⟩) 0 0) x.k = W5 := ⟨_, rfl⟩
      have H5 := Lib.hid (popMid_of EB.out HBC.out H4.out.1 H4.out.2.1 H4.out.2.2.1 H4.out.2.2.2.1 H4.out.2.2.2.2 e5)
      simp only [stP] at e5
      subst hc1
      have hn0 : n = 0 := by have := HC.out; omega
      subst hn0
      go_region_law (fail)
      all_goals (go_wp2_with fail; go_meet; exact H5.out)
    · have eV := EV.out
      unfold tailV at eV
      rw [if_neg hc1] at eV
      simp only [Value.slice.injEq] at eV
      obtain ⟨rfl, rfl, rfl⟩ := eV
      obtain ⟨W5, e5⟩ : ∃ W5, stP W4 b (.slice (some ⟨g, o + 12, none⟩) n (cap - 1)) x.k = W5 := ⟨_, rfl⟩
      have H5 := Lib.hid (popMid_of EB.out HBC.out H4.out.1 H4.out.2.1 H4.out.2.2.1 H4.out.2.2.2.1 H4.out.2.2.2.2 e5)
      simp only [stP] at e5
      have hcq : (cap = 1) = False := eq_false hc1
      have hcq2 : n + 1 ≤ cap := HC.out
      have hcq3 : 1 ≤ cap := by omega
      have hcq4 : (1 : Int) ≤ (n : Int) + 1 := by omega
      go_region_law (fail)
      all_goals (go_wp2_with fail; go_meet; exact H5.out)
  case rest =>
    have HM := Lib.hid hcut
    clear hcut s0 s1 s2 s3 s4 s5 s6 s7 f0 f1 f2 f3 f4 f5 f6 t0 t1 t2 t3 t4 t5 t6 t7 n0 n1 n2 n3 n4 n5 n6 n7 n8 n9 n10 n11 n12 x0 x1 x2 x3 x4 x5 x6 x7 x8 x9 x10 x11 x12 y0 y1 y2 y3 y4 y5 y6 y7 y8 y9 y10 y11 p0 p1 p2 p3 p4 p5 p6 p7 p8 p9 p10 p11
    obtain ⟨s0, s1, s2, s3, s4, s5, s6, s7⟩ := hat7_of HM.out.b0
    obtain ⟨n0, n1, n2, n3, n4, n5, n6, n7, n8, n9, n10, n11, n12⟩ := pat_of HM.out.c0
    go_wp2_with fail
    obtain ⟨W7, e7, i7, i12, gA⟩ := pop_end (v := .slice a m c') (M := M) (dl := dl) (last := x.k) (sm := true) x EB.out HM.out.g HM.out.b1 HM.out.b2
    have HX := Lib.hid (And.intro i7 (And.intro i12 gA))
    obtain ⟨f0, f1, f2, f3, f4, f5, f6⟩ := hfree7_of HM.out.b1
    obtain ⟨m0, m1, m2, m3, m4, m5, m6, m7⟩ := hat7z_of HM.out.b1
    obtain ⟨y0, y1, y2, y3, y4, y5, y6, y7, y8, y9, y10, y11⟩ := pfree_of HM.out.b2
    obtain ⟨x0, x1, x2, x3, x4, x5, x6, x7, x8, x9, x10, x11, x12⟩ := pat_of HM.out.b2
    have hbc := HBC.out
    have q1 : (b + 1 = b) = False := eq_false (by omega)
    have q2 : (b + 1 + 1 = b) = False := eq_false (by omega)
    have q3 : (b + 1 + 1 = b + 1) = False := eq_false (by omega)
    have q4 : (b = b + 1) = False := eq_false (by omega)
    have q5 : (b = b + 1 + 1) = False := eq_false (by omega)
    have q6 : (b + 1 = b + 1 + 1) = False := eq_false (by omega)
    have q7 : (c = b + 1) = False := eq_false (by omega)
    have q8 : (b + 1 = c) = False := eq_false (by omega)
    have q9 : (c = b + 1 + 1) = False := eq_false (by omega)
    have q10 : (b + 1 + 1 = c) = False := eq_false (by omega)
    simp only [st12, st7, PW.body] at e7
    have mixed : Try.prog.follows .mixedOrders = true := by kernel_rfl
    clear i7 i12 gA hbc
    go_region_law (fail)
    all_goals (
      go_wp2_with fail
      obtain ⟨⟨i0, i1, i2, i3, i4, i5, i6, i7⟩, ⟨k0, k1, k2, k3, k4, k5, k6, k7, k8, k9, k10, k11, k12⟩, gA⟩ := HX.out
      exact bodyPost_ret (v := .tuple #[DV (.slice a m c') M dl x.k true, x.val, .bool true]) (by simp [results, Try.results51, go_sem, i0, i1, i2, i3, i4, i5, i6, k0, k1, k2, k3, k4, k5, k6, k7, k8, k9, k10, k11]) rfl ⟨rfl, grows_trans _ _ _ gA (bl_drew (Below.refl _ _))⟩)
end
end Go.Proofs.Ytdmmceclohkkdaa
namespace Go.Proofs.Ytdmmceclohkkdaa
open Go.RowKit Go.Sort
set_option maxHeartbeats 4000000
set_option maxRecDepth 100000
theorem put_ret {w W : World} {b : Nat} {v : Value} {M : Nat} {dl : Int} {last : KW} {sm : Bool} (eb : w.heap.size = b) (hg : Grows w W) (h2 : W.heap[b + 1 + 1]? = some (.cells dz TRH (0, 0))) :
    ∃ W', st7 W (b + 1 + 1) v M dl last sm = W' ∧ HAt7 W' (b + 1 + 1) v M dl last sm ∧ Grows w W' := by
  have h3 := st7_box (v := v) (M := M) (dl := dl) (last := last) (sm := sm) h2
  have hc := st7_chg W (b + 1 + 1) v M dl last sm
  exact ⟨_, rfl, hat7_of h3, grows_of_chg hg hc (fun j hj => by omega)⟩
def HZ7 (w : World) (b : Nat) : Prop :=
  w.cell? ⟨b, 0, none⟩ = some (.slice none 0 0) ∧ w.cell? ⟨b, 1, none⟩ = some (.int .i64 0) ∧ w.cell? ⟨b, 2, none⟩ = some (.int .i64 0) ∧ w.cell? ⟨b, 3, none⟩ = some (.int .i64 0) ∧ w.cell? ⟨b, 4, none⟩ = some (.int .i64 0) ∧ w.cell? ⟨b, 5, none⟩ = some (.int .u32 0) ∧ w.cell? ⟨b, 6, none⟩ = some (.bool false) ∧ b < w.heap.size
/-- What Put's boxes hold. -/
structure PutBox (w W : World) (b : Nat) (v : Value) (M : Nat) (dl : Int) (last : KW) (sm : Bool) (x : PW) : Prop where
  b0 : W.heap[b]? = some (.cells (dcs v M dl last sm) TRH (0, 0))
  b1 : W.heap[b + 1]? = some (.cells x.cells TPK (0, 0))
  b2 : W.heap[b + 1 + 1]? = some (.cells dz TRH (0, 0))
  g : Grows w W
theorem PutBox.grows {w W W' : World} {b : Nat} {v : Value} {M : Nat} {dl : Int} {last : KW} {sm : Bool} {x : PW} (h : PutBox w W b v M dl last sm x) (hg : Grows W W') : PutBox w W' b v M dl last sm x :=
  ⟨box_grows h.b0 hg, box_grows h.b1 hg, box_grows h.b2 hg, grows_trans _ _ _ h.g hg⟩
theorem PutBox.facts {w W : World} {b : Nat} {v : Value} {M : Nat} {dl : Int} {last : KW} {sm : Bool} {x : PW} (h : PutBox w W b v M dl last sm x) : HAt7 W b v M dl last sm ∧ PAt W (b + 1) x ∧ HFree7 W (b + 1 + 1) ∧ HZ7 W (b + 1 + 1) :=
  ⟨hat7_of h.b0, pat_of h.b1, hfree7_of h.b2, hat7z_of h.b2⟩
section
variable {w : World} {M : Nat} {dl : Int} {last : KW} {sm : Bool} {a : Option Addr} {n cap : Nat}
theorem rput_bad (x : PW) (h0 : 0 ≤ dl) (h1 : dl ≤ 1152921504606846976) (hE : checkE x.kd x.k dl last sm ≠ 0) :
    Calls Try.prog 50 #[DV (.slice a n cap) M dl last sm, x.val] w (RetV w (.tuple #[DV (.slice a n cap) M dl last sm, .int .i64 (checkE x.kd x.k dl last sm)])) := by
  obtain ⟨b, eb⟩ : ∃ b, w.heap.size = b := ⟨_, rfl⟩
  obtain ⟨W, eW, hb0, hb1, hb2, hg⟩ := three_at w (.cells (dcs (.slice a n cap) M dl last sm) TRH) (.cells x.cells TPK) (.cells dz TRH) b eb
  have hbx : PutBox w W b (.slice a n cap) M dl last sm x := ⟨hb0, hb1, hb2, hg⟩
  have HF := Lib.hid (fun W2 (hw : Grows W W2) => (hbx.grows hw).facts)
  have HE := Lib.hid (fun W2 (hw : Grows W W2) => put_ret (v := .slice a n cap) (M := M) (dl := dl) (last := last) (sm := sm) eb (hbx.grows hw).g (hbx.grows hw).b2)
  obtain ⟨⟨s0, s1, s2, s3, s4, s5, s6, s7⟩, ⟨x0, x1, x2, x3, x4, x5, x6, x7, x8, x9, x10, x11, x12⟩, ⟨f0, f1, f2, f3, f4, f5, f6⟩, ⟨m0, m1, m2, m3, m4, m5, m6, m7⟩⟩ := HF.out W (grows_refl _)
  have HK := Lib.hid (fun W => rkgood_any x.k W)
  have HL := Lib.hid (fun W => rless_any last x.k W)
  obtain ⟨dw1, dw2⟩ := delta_wrap h0 h1
  have q1 : (b + 1 = b) = False := eq_false (by omega)
  have q2 : (b + 1 + 1 = b) = False := eq_false (by omega)
  have q3 : (b + 1 + 1 = b + 1) = False := eq_false (by omega)
  have q4 : (b = b + 1) = False := eq_false (by omega)
  have q5 : (b = b + 1 + 1) = False := eq_false (by omega)
  have q6 : (b + 1 = b + 1 + 1) = False := eq_false (by omega)
  obtain ⟨r, er⟩ : ∃ r, checkE x.kd x.k dl last sm = r := ⟨_, rfl⟩
  rw [er] at hE ⊢
  simp only [dcs, dz, PW.cells, PW.body] at eW
  clear hb0 hb1 hb2 hg hbx h0 h1
  simp only [DV, dcs, PW.val, PW.cells, PW.body]
  unfold checkE at er
  by_cases hk : x.kd ≠ 4 ∧ x.kd ≠ 5
  · rw [if_pos hk] at er
    subst er
    obtain ⟨hk4, hk5⟩ := hk
    have hk6 : (x.kd == 4) = false := beq_false_of_ne hk4
    have hk7 : (x.kd == 5) = false := beq_false_of_ne hk5
    have hk8 : (x.kd != 4) = true := bne_iff_ne.2 hk4
    have hk9 : (x.kd != 5) = true := bne_iff_ne.2 hk5
    clear hk4 hk5
    go_enter Try.func50, Try.ntmps50
    obtain ⟨W7, e7, i7, gA⟩ := HE.out W (grows_refl _)
    have HX := Lib.hid (And.intro i7 gA)
    simp only [st7] at e7
    clear i7 gA
    go_wp2_with fail
    obtain ⟨⟨i0, i1, i2, i3, i4, i5, i6, i7⟩, gA⟩ := HX.out
    exact bodyPost_ret (v := .tuple #[DV (.slice a n cap) M dl last sm, .int .i64 7]) (by simp [results, Try.results50, go_sem, i0, i1, i2, i3, i4, i5, i6]) rfl ⟨rfl, gA⟩
  · rw [if_neg hk] at er
    have hk' : x.kd = 4 ∨ x.kd = 5 := by omega
    clear hk
    obtain ⟨gd, egd⟩ : ∃ gd, goodK x.k = gd := ⟨_, rfl⟩
    obtain ⟨ls, els⟩ : ∃ ls, lessK last x.k = ls := ⟨_, rfl⟩
    rw [egd] at HK er
    rw [els] at HL er
    clear egd els
    cases gd with
    | false =>
      obtain rfl : r = 1 := by rw [← er]; simp
      clear er hE
      rcases hk' with hkd | hkd
      all_goals (
        rw [hkd] at x0
        clear hkd
        go_enter Try.func50, Try.ntmps50
        go_wp2_with fail
        refine (HK.out _).mono ?_
        rintro e w1 ⟨rfl, hg1⟩
        have HG1 := Lib.hid hg1
        clear s0 s1 s2 s3 s4 s5 s6 s7 x0 x1 x2 x3 x4 x5 x6 x7 x8 x9 x10 x11 x12 f0 f1 f2 f3 f4 f5 f6 m0 m1 m2 m3 m4 m5 m6 m7
        obtain ⟨⟨s0, s1, s2, s3, s4, s5, s6, s7⟩, ⟨x0, x1, x2, x3, x4, x5, x6, x7, x8, x9, x10, x11, x12⟩, ⟨f0, f1, f2, f3, f4, f5, f6⟩, ⟨m0, m1, m2, m3, m4, m5, m6, m7⟩⟩ := HF.out w1 HG1.out
        clear hg1
        obtain ⟨W7, e7, i7, gA⟩ := HE.out w1 HG1.out
        have HX := Lib.hid (And.intro i7 gA)
        simp only [st7] at e7
        clear i7 gA
        go_wp2_with fail
        obtain ⟨⟨i0, i1, i2, i3, i4, i5, i6, i7⟩, gA⟩ := HX.out
        exact bodyPost_ret (v := .tuple #[DV (.slice a n cap) M dl last sm, .int .i64 1]) (by simp [results, Try.results50, go_sem, i0, i1, i2, i3, i4, i5, i6]) rfl ⟨rfl, gA⟩)
    | true =>
      by_cases ht : 1152921504606846976 - dl < x.k.t
      · obtain rfl : r = 1 := by rw [← er]; simp [ht]
        clear er hE
        rcases hk' with hkd | hkd
        all_goals (
          rw [hkd] at x0
          clear hkd
          go_enter Try.func50, Try.ntmps50
          go_wp2_with fail
          refine (HK.out _).mono ?_
          rintro e w1 ⟨rfl, hg1⟩
          have HG1 := Lib.hid hg1
          clear s0 s1 s2 s3 s4 s5 s6 s7 x0 x1 x2 x3 x4 x5 x6 x7 x8 x9 x10 x11 x12 f0 f1 f2 f3 f4 f5 f6 m0 m1 m2 m3 m4 m5 m6 m7
          obtain ⟨⟨s0, s1, s2, s3, s4, s5, s6, s7⟩, ⟨x0, x1, x2, x3, x4, x5, x6, x7, x8, x9, x10, x11, x12⟩, ⟨f0, f1, f2, f3, f4, f5, f6⟩, ⟨m0, m1, m2, m3, m4, m5, m6, m7⟩⟩ := HF.out w1 HG1.out
          clear hg1
          obtain ⟨W7, e7, i7, gA⟩ := HE.out w1 HG1.out
          have HX := Lib.hid (And.intro i7 gA)
          simp only [st7] at e7
          clear i7 gA
          go_wp2_with fail
          obtain ⟨⟨i0, i1, i2, i3, i4, i5, i6, i7⟩, gA⟩ := HX.out
          exact bodyPost_ret (v := .tuple #[DV (.slice a n cap) M dl last sm, .int .i64 1]) (by simp [results, Try.results50, go_sem, i0, i1, i2, i3, i4, i5, i6]) rfl ⟨rfl, gA⟩)
      · cases sm with
        | false => exact absurd (by rw [← er]; simp [ht]) hE
        | true =>
          cases ls with
          | true => exact absurd (by rw [← er]; simp [ht]) hE
          | false =>
            obtain rfl : r = 11 := by rw [← er]; simp [ht]
            clear er hE
            rcases hk' with hkd | hkd
            all_goals (
              rw [hkd] at x0
              clear hkd
              go_enter Try.func50, Try.ntmps50
              go_wp2_with fail
              refine (HK.out _).mono ?_
              rintro e w1 ⟨rfl, hg1⟩
              have HG1 := Lib.hid hg1
              clear s0 s1 s2 s3 s4 s5 s6 s7 x0 x1 x2 x3 x4 x5 x6 x7 x8 x9 x10 x11 x12 f0 f1 f2 f3 f4 f5 f6 m0 m1 m2 m3 m4 m5 m6 m7
              obtain ⟨⟨s0, s1, s2, s3, s4, s5, s6, s7⟩, ⟨x0, x1, x2, x3, x4, x5, x6, x7, x8, x9, x10, x11, x12⟩, ⟨f0, f1, f2, f3, f4, f5, f6⟩, ⟨m0, m1, m2, m3, m4, m5, m6, m7⟩⟩ := HF.out w1 HG1.out
              clear hg1
              go_wp2_with fail
              refine (HL.out _).mono ?_
              rintro e w2 ⟨rfl, hg2⟩
              have HG2 := Lib.hid (grows_trans _ _ _ HG1.out hg2)
              clear s0 s1 s2 s3 s4 s5 s6 s7 x0 x1 x2 x3 x4 x5 x6 x7 x8 x9 x10 x11 x12 f0 f1 f2 f3 f4 f5 f6 m0 m1 m2 m3 m4 m5 m6 m7
              obtain ⟨⟨s0, s1, s2, s3, s4, s5, s6, s7⟩, ⟨x0, x1, x2, x3, x4, x5, x6, x7, x8, x9, x10, x11, x12⟩, ⟨f0, f1, f2, f3, f4, f5, f6⟩, ⟨m0, m1, m2, m3, m4, m5, m6, m7⟩⟩ := HF.out w2 HG2.out
              clear hg2
              obtain ⟨W7, e7, i7, gA⟩ := HE.out w2 HG2.out
              have HX := Lib.hid (And.intro i7 gA)
              simp only [st7] at e7
              clear i7 gA
              go_wp2_with fail
              obtain ⟨⟨i0, i1, i2, i3, i4, i5, i6, i7⟩, gA⟩ := HX.out
              exact bodyPost_ret (v := .tuple #[DV (.slice a n cap) M dl last true, .int .i64 11]) (by simp [results, Try.results50, go_sem, i0, i1, i2, i3, i4, i5, i6]) rfl ⟨rfl, gA⟩)
end
end Go.Proofs.Ytdmmceclohkkdaa
