/- The document's At and New. -/
import Derived.Test.YtdmmceclohkkdaaKeyIn
import Derived.Test.YtdmmceclohkkdaaTabBI
/- The document's rows: a key and what it has: four cells each. -/
namespace Go.Proofs.Ytdmmceclohkkdaa
open Go.RowKit Go.Sort
set_option maxHeartbeats 4000000
set_option maxRecDepth 100000

theorem Try.infoRow : (Try.prog.info? 117).map (fun i => (i.zero, i.size, i.bytes)) = some (some (.agg #[.int .i64 0, .int .i64 0, .int .u32 0, .int .i64 0]), 4, 32) := by kernel_rfl
abbrev DR := KW × Int
abbrev rc (p : DR) : List Value := [.int .i64 p.1.t, .int .i64 p.1.f, .int .u32 p.1.s, .int .i64 p.2]
abbrev rvs (l : List DR) : List Value := l.flatMap rc
theorem rc_one : ∀ (p : DR), ∀ u ∈ rc p, u.oneCell' = true := by
  intro k u hu
  simp only [rc, List.mem_cons, List.not_mem_nil, or_false] at hu
  rcases hu with rfl | rfl | rfl | rfl <;> rfl
theorem rvs_one (l : List DR) : ∀ u ∈ rvs l, u.oneCell' = true := rows_one (f := rc) rc_one l
theorem rvs_length (l : List DR) : (rvs l).length = l.length * 4 := rows_length (f := rc) (k := 4) (fun _ => rfl) l
theorem rvs_append (l m : List DR) : rvs (l ++ m) = rvs l ++ rvs m := by simp [rvs]
/-- A slice of rows of its own. -/
abbrev ROwn (w : World) (base : Nat) (v : Value) (l : List DR) : Prop := w.ownsRow base 117 4 v l.length (rvs l)
theorem rform {w : World} {base : Nat} {v : Value} {l : List DR} (h : ROwn w base v l) : (l = [] ∧ v = .slice none 0 0) ∨ ∃ g cap, v = .slice (some ⟨g, 0, none⟩) l.length cap ∧ l.length ≤ cap ∧ base ≤ g ∧ g < w.heap.size ∧ RAt rc 4 w g 0 l :=
  own_rows (f := rc) (k := 4) (fun _ => rfl) rfl h
theorem ROwn.len {w : World} {base : Nat} {v : Value} {l : List DR} {n : Nat} (h : ROwn w base v l) (hn : l.length = n) : ∃ a cap, v = .slice a n cap := by
  rcases rform h with ⟨rfl, rfl⟩ | ⟨g, cap, rfl, _⟩
  · exact ⟨none, 0, by rw [← hn]; rfl⟩
  · exact ⟨_, cap, by rw [hn]⟩
theorem ROwn.form {w : World} {base : Nat} {v : Value} {l : List DR} {n : Nat} (h : ROwn w base v l) (hn : l.length = n) (h0 : 0 < n) : ∃ g cap, v = .slice (some ⟨g, 0, none⟩) n cap ∧ n ≤ cap ∧ g < w.heap.size ∧ RAt rc 4 w g 0 l := by
  rcases rform h with ⟨rfl, rfl⟩ | ⟨g, cap, h1, h2, _, h3, h4⟩
  · simp at hn; omega
  · exact ⟨g, cap, by rw [h1, hn], by omega, h3, h4⟩
theorem rat_cells {w : World} {g o : Nat} {l : List DR} (h : RAt rc 4 w g o l) (i : Nat) (hi : i < l.length) : w.cell? ⟨g, o + i * 4, none⟩ = some (.int .i64 l[i].1.t) ∧ w.cell? ⟨g, o + i * 4 + 1, none⟩ = some (.int .i64 l[i].1.f) ∧ w.cell? ⟨g, o + i * 4 + 2, none⟩ = some (.int .u32 l[i].1.s) ∧ w.cell? ⟨g, o + i * 4 + 3, none⟩ = some (.int .i64 l[i].2) :=
  ⟨h i hi 0 (by omega), h i hi 1 (by omega), h i hi 2 (by omega), h i hi 3 (by omega)⟩
theorem ROwn.ty {w : World} {base : Nat} {v : Value} {l : List DR} (h : ROwn w base v l) {j : Nat} (hj : v.ownBlock = some j) : ∃ cur, w.heap[j]? = some (.cells cur 117 (0, 0)) := by
  rcases h.2 with ⟨h1, _⟩ | ⟨g, cap, cur, hv, _, hg, _⟩
  · rw [h1] at hj; simp [Value.ownBlock] at hj
  · rw [hv] at hj
    simp only [Value.ownBlock, Option.some.injEq] at hj
    subst hj
    exact ⟨cur, hg⟩
/-- It is no block of a table. -/
theorem ROwn.tab {T : TypeId} {w : World} {base b2 tb mb most : Nat} {v kv : Value} {l : List DR} {m : List (KW × Value)} (h : ROwn w b2 v l) (ht : TabAt T w base tb kv mb m most) (hT : T ≠ 117) : ∀ j, v.ownBlock = some j → ¬ TabS tb kv mb j := by
  intro j hj hs
  obtain ⟨cur, hg⟩ := h.ty hj
  rcases hs with rfl | rfl | hs
  · rw [ht.ob] at hg
    injection hg with hg
    injection hg with _ hg
    exact hT hg
  · exact map_ne_cells ht.map hg
  · obtain ⟨cur2, hg2⟩ := ht.own.ty hs
    rw [hg2] at hg
    injection hg with hg
    injection hg with _ hg
    exact absurd hg (by decide)
/-- What an append takes from: nothing, or cells that read so. -/
def RSrc (w : World) (u : Value) (m : List DR) : Prop := (m = [] ∧ u = .slice none 0 0) ∨ ∃ a c, u = .slice (some a) m.length c ∧ ∀ j x, (rvs m)[j]? = some x → w.cell? (a.add j) = some x
theorem rsrc_at {w : World} {g o : Nat} {l : List DR} (h : RAt rc 4 w g o l) (i c : Nat) : RSrc w (.slice (some ⟨g, o + i * 4, none⟩) (l.drop i).length c) (l.drop i) := by
  refine .inr ⟨_, _, rfl, fun j x hj => ?_⟩
  have hl := (List.getElem?_eq_some_iff.1 hj).1
  rw [rvs_length, List.length_drop] at hl
  rw [addr_add]
  have h5 := h (i + j / 4) (by omega) (j % 4) (Nat.mod_lt _ (by omega))
  rw [show o + (i + j / 4) * 4 + j % 4 = o + i * 4 + j by omega] at h5
  rw [h5]
  have h6 := rows_get (f := rc) (k := 4) (fun _ => rfl) (l.drop i) (j / 4) (by rw [List.length_drop]; omega) (j % 4) (Nat.mod_lt _ (by omega))
  rw [show j / 4 * 4 + j % 4 = j by omega] at h6
  rw [List.getElem_drop] at h6
  rw [← h6]
  exact hj
theorem rsrc_take {w : World} {g : Nat} {l : List DR} (h : RAt rc 4 w g 0 l) (i c : Nat) : RSrc w (.slice (some ⟨g, 0, none⟩) (l.take i).length c) (l.take i) := by
  refine .inr ⟨_, _, rfl, fun j x hj => ?_⟩
  have hl := (List.getElem?_eq_some_iff.1 hj).1
  rw [rvs_length, List.length_take] at hl
  rw [addr_add]
  have h5 := h (j / 4) (by omega) (j % 4) (Nat.mod_lt _ (by omega))
  rw [show 0 + j / 4 * 4 + j % 4 = 0 + j by omega] at h5
  rw [h5]
  have h6 := rows_get (f := rc) (k := 4) (fun _ => rfl) (l.take i) (j / 4) (by rw [List.length_take]; omega) (j % 4) (Nat.mod_lt _ (by omega))
  rw [show j / 4 * 4 + j % 4 = j by omega, List.getElem_take] at h6
  rw [← h6]
  exact hj
theorem rsrc_nil (w : World) (a : Option Addr) (c : Nat) (h : a = none → c = 0) : RSrc w (.slice a 0 c) [] := by
  cases a with
  | none => rw [h rfl]; exact .inl ⟨rfl, rfl⟩
  | some a => exact .inr ⟨a, c, rfl, fun j x hj => by simp [rvs] at hj⟩
theorem RSrc.grows {w w' : World} {u : Value} {m : List DR} (h : RSrc w u m) (hg : Grows w w') : RSrc w' u m := by
  rcases h with h | ⟨a, c, rfl, h2⟩
  · exact .inl h
  · exact .inr ⟨a, c, rfl, fun j x hj => box_cell_grows (h2 j x hj) hg⟩
/-- Rows appended to rows of one's own. -/
theorem rapp_run {W : World} {base : Nat} {v u : Value} {l m : List DR} (ho : ROwn W base v l) (hs : RSrc W u m) (hm : l.length + m.length ≤ 100000) (hb : base ≤ W.heap.size) :
    ∃ v' W', (∀ ty, (Builtin.append_ #[35, 35] ty #[v, u]).run Try.prog W = .ok v' W') ∧ ROwn W' base v' (l ++ m) ∧ W.grownBy W' v.ownBlock := by
  obtain ⟨i0, hi, hz⟩ : ∃ i, Try.prog.info? 117 = some i ∧ (i.zero, i.size, i.bytes) = (some (.agg #[.int .i64 0, .int .i64 0, .int .u32 0, .int .i64 0]), 4, 32) := Option.map_eq_some_iff.1 Try.infoRow
  simp only [Prod.mk.injEq] at hz
  obtain ⟨hz0, hz1, hz2⟩ := hz
  rcases hs with ⟨rfl, rfl⟩ | ⟨a, c, rfl, hc⟩
  · refine ⟨v, W, fun ty => run_append_owned_none W base _ ty 117 i0 4 Try.underlying35 hi v l.length (rvs l) ho, by simpa using ho, ?_⟩
    exact ⟨rfl, rfl, rfl, Nat.le_refl _, fun _ _ _ => rfl⟩
  · obtain ⟨v', W', h1, h2, h3, -⟩ := run_append_own (P := Try.prog) W base 35 0 117 i0 _ 4 32 Try.underlying35 hi hz0 hz1 hz2 rfl (by decide) v l.length (rvs l) ho a m.length c (rvs m) (rvs_length m) hc (rvs_one m)
      (by unfold maxLen; omega) (by omega) hb
    refine ⟨v', W', fun _ => h1, ?_, h3⟩
    show W'.ownsRow base _ 4 v' (l ++ m).length (rvs (l ++ m))
    rw [rvs_append, List.length_append]
    exact h2
/-- 'append' as one step, where its run is known. -/
theorem wpList_append_run {P : Program} (w : World) {ops : Array Oper} {rest : List Oper} {o : Oper} {a : Act} {Q : Exit → Act → World → Prop} (hgd : o.guard = none) (d s : Operand) (t t' : TypeId)
    (ho : o.op = .call { callee := .builtin .append, args := #[d, s], argTypes := #[t, t'] }) (v u : Value) (hd : a.eval d = v) (hs : a.eval s = u) {v' : Value} {w' : World}
    (hr : (Builtin.append_ #[t, t'] o.type #[v, u]).run P w = .ok v' w') (h : wpList P ops Q rest (a.put o.dst v') w') : wpList P ops Q (o :: rest) a w :=
  wpList_plain hgd fun _ hK => by
    unfold Oper.wp execOp
    simp only [ho, resolve, invoke, builtin, Sem.run_bind, Sem.run_pure, Result.andThen_ok, List.map_toArray, List.map_cons, List.map_nil, hd, hs, hr]
    exact hK _ _ h
/-- The document's table, as a value. -/
abbrev dval (v : Value) (M : Nat) : Value := .agg #[v, .int .i64 (M : Int)]
/-- The table's rows, said so. -/
def tv (p : DR) : KW × Value := (p.1, .int .i64 p.2)
theorem tv_keys (l : List DR) : (l.map tv).map (·.1) = l.map (·.1) := by rw [List.map_map]; rfl
theorem insT_tv (l : List DR) (k : KW) (x : Int) : insT (l.map tv) k (.int .i64 x) = (insT l k x).map tv := by
  unfold insT
  rw [List.map_append, List.map_cons, ← map_takeWhile' tv (fun p => lessK p.1 k) l, ← map_dropWhile' tv (fun p => lessK p.1 k) l]
  rfl
/-- Where the row of a key stands. -/
def atR (l : List DR) (k : KW) : Int := match l.findIdx? (fun p => decide (p.1 = k)) with | some i => (i : Int) | none => -1
theorem atR_some {l : List DR} {k : KW} {i : Nat} (hi : i < l.length) (h1 : (l[i]).1 = k) (h2 : k ∉ (l.take i).map (·.1)) : atR l k = (i : Int) := by
  unfold atR
  rw [List.findIdx?_eq_some_iff_getElem.2 ⟨hi, by simpa using h1, fun j hj => by
    simp only [decide_eq_true_eq]
    intro e
    exact h2 (List.mem_map.2 ⟨l[j], by rw [List.mem_take_iff_getElem]; exact ⟨j, by omega, rfl⟩, e⟩)⟩]
theorem atR_none {l : List DR} {k : KW} (h : k ∉ l.map (·.1)) : atR l k = -1 := by
  unfold atR
  rw [List.findIdx?_eq_none_iff.2 (fun p hp => by
    simp only [decide_eq_false_iff_not]
    intro e
    exact h (List.mem_map.2 ⟨p, hp, e⟩))]
end Go.Proofs.Ytdmmceclohkkdaa
namespace Go.Proofs.Ytdmmceclohkkdaa
open Go.RowKit Go.Sort
set_option maxHeartbeats 4000000
set_option maxRecDepth 100000
section
attribute [-go_sem] run_eql_struct run_neq_struct
theorem rat_any {v : Value} {l : List DR} {w : World} {base M : Nat} (k : KW) (h : ROwn w base v l) (hm : l.length ≤ 100000) :
    Calls Try.prog 41 #[dval v M, k.val] w (RetV w (.int .i64 (atR l k))) := by
  obtain ⟨n, en⟩ : ∃ n, l.length = n := ⟨_, rfl⟩
  obtain ⟨a, cap, rfl⟩ := ROwn.len h en
  have hq2 := two_new w (.cells #[.slice a n cap, .int .i64 (M : Int)] 37) (.cells #[.int .i64 k.t, .int .i64 k.f, .int .u32 k.s] 29)
  have hgb : Grows w ((w.alloc (.cells #[.slice a n cap, .int .i64 (M : Int)] 37)).alloc (.cells #[.int .i64 k.t, .int .i64 k.f, .int .u32 k.s] 29)) := bl_alloc (bl_alloc (Below.refl _ _) _) _
  obtain ⟨W, eW⟩ : ∃ W, (w.alloc (.cells #[.slice a n cap, .int .i64 (M : Int)] 37)).alloc (.cells #[.int .i64 k.t, .int .i64 k.f, .int .u32 k.s] 29) = W := ⟨_, rfl⟩
  rw [eW] at hgb hq2
  have HH := Lib.hid (own_grows h hgb)
  have HG := Lib.hid hgb
  have HB := Lib.hid hq2
  have EN := Lib.hid en
  have HM := Lib.hid hm
  have HQ := Lib.hid (fun (y : KW) (W : World) => key_eql y k W)
  obtain ⟨r, er⟩ : ∃ r, atR l k = r := ⟨_, rfl⟩
  have ER := Lib.hid er
  rw [er]
  clear h hm hgb hq2 en er
  go_enter Try.func41, Try.ntmps41
  go_wp2_with fail
  go_loopw [5] (fun iv wr => ∃ i : Nat, iv = .int .i64 (i : Int) ∧ i ≤ n ∧ k ∉ (l.take i).map (·.1) ∧ Grows W wr) (fun iv _ => n - (intOf iv).toNat)
  case atStart => exact ⟨0, rfl, Nat.zero_le _, by simp, grows_refl _⟩
  case round =>
    obtain ⟨i, rfl, hi, hni, hg⟩ := hrel
    have hta := box_grows HB.out.1 hg
    have hhb := box_grows HB.out.2 hg
    have hha := own_grows HH.out hg
    have z1 : w.heap.size < wr.heap.size := box_lt hta
    have z2 : w.heap.size + 1 < wr.heap.size := box_lt hhb
    obtain ⟨s0, -⟩ := cell_in hta 0 rfl
    obtain ⟨t0, -⟩ := cell_in hhb 0 rfl
    obtain ⟨t1, -⟩ := cell_in hhb 1 rfl
    obtain ⟨t2, -⟩ := cell_in hhb 2 rfl
    have HGG := Lib.hid hg
    have HNI := Lib.hid hni
    clear hg hhb hta hni eW
    by_cases hlt : i < n
    · have hn6 : i ≤ 1000000 := Nat.le_trans (Nat.le_of_lt hlt) (by rw [← EN.out]; exact Nat.le_trans HM.out (by decide))
      have HNF := Lib.hid (nat_facts i hn6)
      have HWS := Lib.hid (wrap_succ hn6)
      have HLT := Lib.hid hlt
      have hnl : i < l.length := by rw [EN.out]; exact hlt
      obtain ⟨g, c', he, hcap, hgl, hat⟩ := ROwn.form hha EN.out (Nat.lt_of_le_of_lt (Nat.zero_le _) hlt)
      simp only [Value.slice.injEq, true_and] at he
      obtain ⟨rfl, rfl⟩ := he
      obtain ⟨p0, p1, p2, -⟩ := rat_cells hat i hnl
      rw [Nat.zero_add] at p0 p1 p2
      obtain ⟨y, ey⟩ : ∃ y, l[i] = y := ⟨_, rfl⟩
      have HNL := Lib.hid (And.intro hnl ey)
      rw [ey] at p0 p1 p2
      have htk : l.take (i + 1) = l.take i ++ [y] := by rw [List.take_succ_eq_append_getElem hnl, ey]
      have HTK := Lib.hid htk
      have hki : (i : Int) < (n : Int) := Int.ofNat_lt.2 hlt
      have hq := HQ.out y.1
      have HRR := Lib.hid (fun (e : y.1 = k) => (atR_some hnl (by rw [ey]; exact e) HNI.out).symm.trans ER.out)
      clear htk ey hat hha hnl hcap hlt hn6 hi HNL
      obtain ⟨j1, j2, j3, j4, j6⟩ := HNF.out
      by_cases hyk : y.1 = k
      · have hd : decide (y.1 = k) = true := decide_eq_true hyk
        have HR := Lib.hid (HRR.out hyk)
        simp only [hd] at hq
        clear hyk hd
        go_wp2_with fail
        refine wp_region_reg (by kernel_rfl) (by kernel_rfl) ?_
        repeat (first | go_big_quiet_step ((fail)) | quiet_step ((fail)))
        refine wpQuiet_nil ?_
        intro _ hcw1
        obtain ⟨pq, hcw2⟩ := hcw1
        subst hcw2
        go_wp2_with fail
        go_ret
        exact ⟨by rw [HR.out]; rfl, grows_trans _ _ _ HG.out (grows_trans _ _ _ HGG.out (below_reg _ _))⟩
      · have hd : decide (y.1 = k) = false := decide_eq_false hyk
        simp only [hd] at hq
        have HYK := Lib.hid hyk
        clear hyk hd
        go_wp2_with fail
        refine wp_region_reg (by kernel_rfl) (by kernel_rfl) ?_
        repeat (first | go_big_quiet_step ((fail)) | quiet_step ((fail)))
        refine wpQuiet_nil ?_
        intro _ hcw1
        obtain ⟨pq, hcw2⟩ := hcw1
        subst hcw2
        go_wp2_with fail
        go_roundw
        case rel => exact ⟨i + 1, by rw [HWS.out]; rfl, HLT.out, by rw [HTK.out, List.map_append, List.mem_append]; rintro (h | h); exact HNI.out h; simp at h; exact HYK.out h.symm, grows_trans _ _ _ HGG.out (below_reg _ _)⟩
        case measure => rw [HWS.out]; exact meas_succ HLT.out
    · obtain rfl : i = n := Nat.le_antisymm hi (Nat.le_of_not_lt hlt)
      have hr : r = -1 := by
        rw [← ER.out]
        have h9 := HNI.out
        rw [List.take_of_length_le (by rw [EN.out]; exact Nat.le_refl _)] at h9
        exact atR_none h9
      have HR := Lib.hid hr
      clear hha hlt hi hr
      go_wp2_with fail
      go_ret
      exact ⟨by rw [HR.out]; rfl, grows_trans _ _ _ HG.out HGG.out⟩
end
theorem rnew_any (n : Int) (w : World) : Calls Try.prog 20 #[.int .i64 n] w (RetV w (dval (.slice none 0 0) (mostOfI n))) := by
  obtain ⟨k, ek⟩ : ∃ k, mostOfI n = k := ⟨_, rfl⟩
  have h3 : (n < 0 ∧ k = 0) ∨ (0 ≤ n ∧ n ≤ 65536 ∧ n = (k : Int)) ∨ (65536 < n ∧ k = 65536) := by rw [← ek]; unfold mostOfI; omega
  rw [ek]
  clear ek
  rcases h3 with ⟨h1, rfl⟩ | ⟨h1, h2, rfl⟩ | ⟨h1, rfl⟩
  all_goals (
    go_enter Try.func20, Try.ntmps20
    go_wp2)
  all_goals (
    refine bodyPost_ret (v := _) (by simp [results, Try.results20, go_sem]; rfl) rfl ?_
    exact ⟨rfl, by show Below w.heap.size w _; (repeat (first | with_reducible exact Below.refl _ _ | with_reducible refine bl_alloc ?_ _ | ((with_reducible refine bl_set ?_ ?_ _); rotate_left; (first | exact Nat.le_refl _ | exact Nat.le_succ_of_le (Nat.le_refl _) | (simp only []; omega))) | with_reducible refine bl_drewN ?_ _ | with_reducible refine bl_drew ?_ | with_reducible refine bl_reg ?_ _))⟩)
end Go.Proofs.Ytdmmceclohkkdaa
