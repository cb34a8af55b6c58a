/- RelD: texts laid one behind the other. -/
import Derived.Test.YtgjieoljfcfacaaDoorRelT
import Derived.Test.YtgjieoljfcfacaaDoorStep
/- The document's lists of keys: In. -/
namespace Go.Proofs.YtgjieoljfcfacaaDoor
open Go.RowKit Go.Sort
set_option maxHeartbeats 4000000
set_option maxRecDepth 100000
theorem key_eql (x y : KW) (w : World) : (binOp .eql 29 x.val y.val).run Tryd.prog w = .ok (.bool (decide (x = y))) w := by
  have h := run_eql_struct (P := Tryd.prog) w 29 #[.int .i64 x.t, .int .i64 x.f, .int .u32 x.s] #[.int .i64 y.t, .int .i64 y.f, .int .u32 y.s]
  have h2 := key_equal x y w
  unfold Op.equal Op.maxDepth at h2
  rw [h, h2]
  rfl
theorem key_neq (x y : KW) (w : World) : (binOp .neq 29 x.val y.val).run Tryd.prog w = .ok (.bool (!decide (x = y))) w := by
  have h := run_neq_struct (P := Tryd.prog) w 29 #[.int .i64 x.t, .int .i64 x.f, .int .u32 x.s] #[.int .i64 y.t, .int .i64 y.f, .int .u32 y.s]
  have h2 := key_equal x y w
  unfold Op.equal Op.maxDepth at h2
  rw [h, h2]
  rfl
section
attribute [-go_sem] run_eql_struct run_neq_struct
end
end Go.Proofs.YtgjieoljfcfacaaDoor
/- The document's At and New. -/
/- The document's rows: a key and what it has: four cells each. -/
namespace Go.Proofs.YtgjieoljfcfacaaDoor
open Go.RowKit Go.Sort
set_option maxHeartbeats 4000000
set_option maxRecDepth 100000

theorem Tryd.infoRow : (Tryd.prog.info? 131).map (fun i => (i.zero, i.size, i.bytes)) = some (some (.agg #[.int .i64 0, .int .i64 0, .int .u32 0, .int .i64 0]), 4, 32) := by kernel_rfl
abbrev DR := KW × Int
abbrev rc (p : DR) : List Value := [.int .i64 p.1.t, .int .i64 p.1.f, .int .u32 p.1.s, .int .i64 p.2]
abbrev rvs (l : List DR) : List Value := l.flatMap rc
theorem rc_one : ∀ (p : DR), ∀ u ∈ rc p, u.oneCell' = true := by
  intro k u hu
  simp only [rc, List.mem_cons, List.not_mem_nil, or_false] at hu
  rcases hu with rfl | rfl | rfl | rfl <;> rfl
theorem rvs_one (l : List DR) : ∀ u ∈ rvs l, u.oneCell' = true := rows_one (f := rc) rc_one l
theorem rvs_length (l : List DR) : (rvs l).length = l.length * 4 := rows_length (f := rc) (k := 4) (fun _ => rfl) l
theorem rvs_append (l m : List DR) : rvs (l ++ m) = rvs l ++ rvs m := by simp [rvs]
/-- A slice of rows of its own. -/
abbrev ROwn (w : World) (base : Nat) (v : Value) (l : List DR) : Prop := w.ownsRow base 131 4 v l.length (rvs l)
theorem rform {w : World} {base : Nat} {v : Value} {l : List DR} (h : ROwn w base v l) : (l = [] ∧ v = .slice none 0 0) ∨ ∃ g cap, v = .slice (some ⟨g, 0, none⟩) l.length cap ∧ l.length ≤ cap ∧ base ≤ g ∧ g < w.heap.size ∧ RAt rc 4 w g 0 l :=
  own_rows (f := rc) (k := 4) (fun _ => rfl) rfl h
theorem ROwn.len {w : World} {base : Nat} {v : Value} {l : List DR} {n : Nat} (h : ROwn w base v l) (hn : l.length = n) : ∃ a cap, v = .slice a n cap := by
  rcases rform h with ⟨rfl, rfl⟩ | ⟨g, cap, rfl, _⟩
  · exact ⟨none, 0, by rw [← hn]; rfl⟩
  · exact ⟨_, cap, by rw [hn]⟩
theorem ROwn.form {w : World} {base : Nat} {v : Value} {l : List DR} {n : Nat} (h : ROwn w base v l) (hn : l.length = n) (h0 : 0 < n) : ∃ g cap, v = .slice (some ⟨g, 0, none⟩) n cap ∧ n ≤ cap ∧ g < w.heap.size ∧ RAt rc 4 w g 0 l := by
  rcases rform h with ⟨rfl, rfl⟩ | ⟨g, cap, h1, h2, _, h3, h4⟩
  · simp at hn; omega
  · exact ⟨g, cap, by rw [h1, hn], by omega, h3, h4⟩
theorem rat_cells {w : World} {g o : Nat} {l : List DR} (h : RAt rc 4 w g o l) (i : Nat) (hi : i < l.length) : w.cell? ⟨g, o + i * 4, none⟩ = some (.int .i64 l[i].1.t) ∧ w.cell? ⟨g, o + i * 4 + 1, none⟩ = some (.int .i64 l[i].1.f) ∧ w.cell? ⟨g, o + i * 4 + 2, none⟩ = some (.int .u32 l[i].1.s) ∧ w.cell? ⟨g, o + i * 4 + 3, none⟩ = some (.int .i64 l[i].2) :=
  ⟨h i hi 0 (by omega), h i hi 1 (by omega), h i hi 2 (by omega), h i hi 3 (by omega)⟩
theorem ROwn.ty {w : World} {base : Nat} {v : Value} {l : List DR} (h : ROwn w base v l) {j : Nat} (hj : v.ownBlock = some j) : ∃ cur, w.heap[j]? = some (.cells cur 131 (0, 0)) := by
  rcases h.2 with ⟨h1, _⟩ | ⟨g, cap, cur, hv, _, hg, _⟩
  · rw [h1] at hj; simp [Value.ownBlock] at hj
  · rw [hv] at hj
    simp only [Value.ownBlock, Option.some.injEq] at hj
    subst hj
    exact ⟨cur, hg⟩
/-- It is no block of a table. -/
theorem ROwn.tab {T : TypeId} {w : World} {base b2 tb mb most : Nat} {v kv : Value} {l : List DR} {m : List (KW × Value)} (h : ROwn w b2 v l) (ht : TabAt T w base tb kv mb m most) (hT : T ≠ 131) : ∀ j, v.ownBlock = some j → ¬ TabS tb kv mb j := by
  intro j hj hs
  obtain ⟨cur, hg⟩ := h.ty hj
  rcases hs with rfl | rfl | hs
  · rw [ht.ob] at hg
    injection hg with hg
    injection hg with _ hg
    exact hT hg
  · exact map_ne_cells ht.map hg
  · obtain ⟨cur2, hg2⟩ := ht.own.ty hs
    rw [hg2] at hg
    injection hg with hg
    injection hg with _ hg
    exact absurd hg (by decide)
/-- What an append takes from: nothing, or cells that read so. -/
def RSrc (w : World) (u : Value) (m : List DR) : Prop := (m = [] ∧ u = .slice none 0 0) ∨ ∃ a c, u = .slice (some a) m.length c ∧ ∀ j x, (rvs m)[j]? = some x → w.cell? (a.add j) = some x
theorem rsrc_at {w : World} {g o : Nat} {l : List DR} (h : RAt rc 4 w g o l) (i c : Nat) : RSrc w (.slice (some ⟨g, o + i * 4, none⟩) (l.drop i).length c) (l.drop i) := by
  refine .inr ⟨_, _, rfl, fun j x hj => ?_⟩
  have hl := (List.getElem?_eq_some_iff.1 hj).1
  rw [rvs_length, List.length_drop] at hl
  rw [addr_add]
  have h5 := h (i + j / 4) (by omega) (j % 4) (Nat.mod_lt _ (by omega))
  rw [show o + (i + j / 4) * 4 + j % 4 = o + i * 4 + j by omega] at h5
  rw [h5]
  have h6 := rows_get (f := rc) (k := 4) (fun _ => rfl) (l.drop i) (j / 4) (by rw [List.length_drop]; omega) (j % 4) (Nat.mod_lt _ (by omega))
  rw [show j / 4 * 4 + j % 4 = j by omega] at h6
  rw [List.getElem_drop] at h6
  rw [← h6]
  exact hj
theorem rsrc_take {w : World} {g : Nat} {l : List DR} (h : RAt rc 4 w g 0 l) (i c : Nat) : RSrc w (.slice (some ⟨g, 0, none⟩) (l.take i).length c) (l.take i) := by
  refine .inr ⟨_, _, rfl, fun j x hj => ?_⟩
  have hl := (List.getElem?_eq_some_iff.1 hj).1
  rw [rvs_length, List.length_take] at hl
  rw [addr_add]
  have h5 := h (j / 4) (by omega) (j % 4) (Nat.mod_lt _ (by omega))
  rw [show 0 + j / 4 * 4 + j % 4 = 0 + j by omega] at h5
  rw [h5]
  have h6 := rows_get (f := rc) (k := 4) (fun _ => rfl) (l.take i) (j / 4) (by rw [List.length_take]; omega) (j % 4) (Nat.mod_lt _ (by omega))
  rw [show j / 4 * 4 + j % 4 = j by omega, List.getElem_take] at h6
  rw [← h6]
  exact hj
theorem rsrc_nil (w : World) (a : Option Addr) (c : Nat) (h : a = none → c = 0) : RSrc w (.slice a 0 c) [] := by
  cases a with
  | none => rw [h rfl]; exact .inl ⟨rfl, rfl⟩
  | some a => exact .inr ⟨a, c, rfl, fun j x hj => by simp [rvs] at hj⟩
theorem RSrc.grows {w w' : World} {u : Value} {m : List DR} (h : RSrc w u m) (hg : Grows w w') : RSrc w' u m := by
  rcases h with h | ⟨a, c, rfl, h2⟩
  · exact .inl h
  · exact .inr ⟨a, c, rfl, fun j x hj => box_cell_grows (h2 j x hj) hg⟩
/-- Rows appended to rows of one's own. -/
theorem rapp_run {W : World} {base : Nat} {v u : Value} {l m : List DR} (ho : ROwn W base v l) (hs : RSrc W u m) (hm : l.length + m.length ≤ 100000) (hb : base ≤ W.heap.size) :
    ∃ v' W', (∀ ty, (Builtin.append_ #[37, 37] ty #[v, u]).run Tryd.prog W = .ok v' W') ∧ ROwn W' base v' (l ++ m) ∧ W.grownBy W' v.ownBlock := by
  obtain ⟨i0, hi, hz⟩ : ∃ i, Tryd.prog.info? 131 = some i ∧ (i.zero, i.size, i.bytes) = (some (.agg #[.int .i64 0, .int .i64 0, .int .u32 0, .int .i64 0]), 4, 32) := Option.map_eq_some_iff.1 Tryd.infoRow
  simp only [Prod.mk.injEq] at hz
  obtain ⟨hz0, hz1, hz2⟩ := hz
  rcases hs with ⟨rfl, rfl⟩ | ⟨a, c, rfl, hc⟩
  · refine ⟨v, W, fun ty => run_append_owned_none W base _ ty 131 i0 4 Tryd.underlying37 hi v l.length (rvs l) ho, by simpa using ho, ?_⟩
    exact ⟨rfl, rfl, rfl, Nat.le_refl _, fun _ _ _ => rfl⟩
  · obtain ⟨v', W', h1, h2, h3, -⟩ := run_append_own (P := Tryd.prog) W base 37 0 131 i0 _ 4 32 Tryd.underlying37 hi hz0 hz1 hz2 rfl (by decide) v l.length (rvs l) ho a m.length c (rvs m) (rvs_length m) hc (rvs_one m)
      (by unfold maxLen; omega) (by omega) hb
    refine ⟨v', W', fun _ => h1, ?_, h3⟩
    show W'.ownsRow base _ 4 v' (l ++ m).length (rvs (l ++ m))
    rw [rvs_append, List.length_append]
    exact h2
/-- 'append' as one step, where its run is known. -/
theorem wpList_append_run {P : Program} (w : World) {ops : Array Oper} {rest : List Oper} {o : Oper} {a : Act} {Q : Exit → Act → World → Prop} (hgd : o.guard = none) (d s : Operand) (t t' : TypeId)
    (ho : o.op = .call { callee := .builtin .append, args := #[d, s], argTypes := #[t, t'] }) (v u : Value) (hd : a.eval d = v) (hs : a.eval s = u) {v' : Value} {w' : World}
    (hr : (Builtin.append_ #[t, t'] o.type #[v, u]).run P w = .ok v' w') (h : wpList P ops Q rest (a.put o.dst v') w') : wpList P ops Q (o :: rest) a w :=
  wpList_plain hgd fun _ hK => by
    unfold Oper.wp execOp
    simp only [ho, resolve, invoke, builtin, Sem.run_bind, Sem.run_pure, Result.andThen_ok, List.map_toArray, List.map_cons, List.map_nil, hd, hs, hr]
    exact hK _ _ h
/-- The document's table, as a value. -/
abbrev dval (v : Value) (M : Nat) : Value := .agg #[v, .int .i64 (M : Int)]
/-- The table's rows, said so. -/
def tv (p : DR) : KW × Value := (p.1, .int .i64 p.2)
theorem tv_keys (l : List DR) : (l.map tv).map (·.1) = l.map (·.1) := by rw [List.map_map]; rfl
theorem insT_tv (l : List DR) (k : KW) (x : Int) : insT (l.map tv) k (.int .i64 x) = (insT l k x).map tv := by
  unfold insT
  rw [List.map_append, List.map_cons, ← map_takeWhile' tv (fun p => lessK p.1 k) l, ← map_dropWhile' tv (fun p => lessK p.1 k) l]
  rfl
/-- Where the row of a key stands. -/
def atR (l : List DR) (k : KW) : Int := match l.findIdx? (fun p => decide (p.1 = k)) with | some i => (i : Int) | none => -1
theorem atR_some {l : List DR} {k : KW} {i : Nat} (hi : i < l.length) (h1 : (l[i]).1 = k) (h2 : k ∉ (l.take i).map (·.1)) : atR l k = (i : Int) := by
  unfold atR
  rw [List.findIdx?_eq_some_iff_getElem.2 ⟨hi, by simpa using h1, fun j hj => by
    simp only [decide_eq_true_eq]
    intro e
    exact h2 (List.mem_map.2 ⟨l[j], by rw [List.mem_take_iff_getElem]; exact ⟨j, by omega, rfl⟩, e⟩)⟩]
theorem atR_none {l : List DR} {k : KW} (h : k ∉ l.map (·.1)) : atR l k = -1 := by
  unfold atR
  rw [List.findIdx?_eq_none_iff.2 (fun p hp => by
    simp only [decide_eq_false_iff_not]
    intro e
    exact h (List.mem_map.2 ⟨p, hp, e⟩))]
end Go.Proofs.YtgjieoljfcfacaaDoor
namespace Go.Proofs.YtgjieoljfcfacaaDoor
open Go.RowKit Go.Sort
set_option maxHeartbeats 4000000
set_option maxRecDepth 100000
section
attribute [-go_sem] run_eql_struct run_neq_struct
theorem rat_any {v : Value} {l : List DR} {w : World} {base M : Nat} (k : KW) (h : ROwn w base v l) (hm : l.length ≤ 100000) :
    Calls Tryd.prog 74 #[dval v M, k.val] w (RetV w (.int .i64 (atR l k))) := by
  obtain ⟨n, en⟩ : ∃ n, l.length = n := ⟨_, rfl⟩
  obtain ⟨a, cap, rfl⟩ := ROwn.len h en
  have hq2 := two_new w (.cells #[.slice a n cap, .int .i64 (M : Int)] 39) (.cells #[.int .i64 k.t, .int .i64 k.f, .int .u32 k.s] 29)
  have hgb : Grows w ((w.alloc (.cells #[.slice a n cap, .int .i64 (M : Int)] 39)).alloc (.cells #[.int .i64 k.t, .int .i64 k.f, .int .u32 k.s] 29)) := bl_alloc (bl_alloc (Below.refl _ _) _) _
  obtain ⟨W, eW⟩ : ∃ W, (w.alloc (.cells #[.slice a n cap, .int .i64 (M : Int)] 39)).alloc (.cells #[.int .i64 k.t, .int .i64 k.f, .int .u32 k.s] 29) = W := ⟨_, rfl⟩
  rw [eW] at hgb hq2
  have HH := Lib.hid (own_grows h hgb)
  have HG := Lib.hid hgb
  have HB := Lib.hid hq2
  have EN := Lib.hid en
  have HM := Lib.hid hm
  have HQ := Lib.hid (fun (y : KW) (W : World) => key_eql y k W)
  obtain ⟨r, er⟩ : ∃ r, atR l k = r := ⟨_, rfl⟩
  have ER := Lib.hid er
  rw [er]
  clear h hm hgb hq2 en er
  go_enter Tryd.func74, Tryd.ntmps74
  go_wp2_with fail
  go_loopw [5] (fun iv wr => ∃ i : Nat, iv = .int .i64 (i : Int) ∧ i ≤ n ∧ k ∉ (l.take i).map (·.1) ∧ Grows W wr) (fun iv _ => n - (intOf iv).toNat)
  case atStart => exact ⟨0, rfl, Nat.zero_le _, by simp, grows_refl _⟩
  case round =>
    obtain ⟨i, rfl, hi, hni, hg⟩ := hrel
    have hta := box_grows HB.out.1 hg
    have hhb := box_grows HB.out.2 hg
    have hha := own_grows HH.out hg
    have z1 : w.heap.size < wr.heap.size := box_lt hta
    have z2 : w.heap.size + 1 < wr.heap.size := box_lt hhb
    obtain ⟨s0, -⟩ := cell_in hta 0 rfl
    obtain ⟨t0, -⟩ := cell_in hhb 0 rfl
    obtain ⟨t1, -⟩ := cell_in hhb 1 rfl
    obtain ⟨t2, -⟩ := cell_in hhb 2 rfl
    have HGG := Lib.hid hg
    have HNI := Lib.hid hni
    clear hg hhb hta hni eW
    by_cases hlt : i < n
    · have hn6 : i ≤ 1000000 := Nat.le_trans (Nat.le_of_lt hlt) (by rw [← EN.out]; exact Nat.le_trans HM.out (by decide))
      have HNF := Lib.hid (nat_facts i hn6)
      have HWS := Lib.hid (wrap_succ hn6)
      have HLT := Lib.hid hlt
      have hnl : i < l.length := by rw [EN.out]; exact hlt
      obtain ⟨g, c', he, hcap, hgl, hat⟩ := ROwn.form hha EN.out (Nat.lt_of_le_of_lt (Nat.zero_le _) hlt)
      simp only [Value.slice.injEq, true_and] at he
      obtain ⟨rfl, rfl⟩ := he
      obtain ⟨p0, p1, p2, -⟩ := rat_cells hat i hnl
      rw [Nat.zero_add] at p0 p1 p2
      obtain ⟨y, ey⟩ : ∃ y, l[i] = y := ⟨_, rfl⟩
      have HNL := Lib.hid (And.intro hnl ey)
      rw [ey] at p0 p1 p2
      have htk : l.take (i + 1) = l.take i ++ [y] := by rw [List.take_succ_eq_append_getElem hnl, ey]
      have HTK := Lib.hid htk
      have hki : (i : Int) < (n : Int) := Int.ofNat_lt.2 hlt
      have hq := HQ.out y.1
      have HRR := Lib.hid (fun (e : y.1 = k) => (atR_some hnl (by rw [ey]; exact e) HNI.out).symm.trans ER.out)
      clear htk ey hat hha hnl hcap hlt hn6 hi HNL
      obtain ⟨j1, j2, j3, j4, j6⟩ := HNF.out
      by_cases hyk : y.1 = k
      · have hd : decide (y.1 = k) = true := decide_eq_true hyk
        have HR := Lib.hid (HRR.out hyk)
        simp only [hd] at hq
        clear hyk hd
        go_wp2_with fail
        refine wp_region_reg (by kernel_rfl) (by kernel_rfl) ?_
        repeat (first | go_big_quiet_step ((fail)) | quiet_step ((fail)))
        refine wpQuiet_nil ?_
        intro _ hcw1
        obtain ⟨pq, hcw2⟩ := hcw1
        subst hcw2
        go_wp2_with fail
        go_ret
        exact ⟨by rw [HR.out]; rfl, grows_trans _ _ _ HG.out (grows_trans _ _ _ HGG.out (below_reg _ _))⟩
      · have hd : decide (y.1 = k) = false := decide_eq_false hyk
        simp only [hd] at hq
        have HYK := Lib.hid hyk
        clear hyk hd
        go_wp2_with fail
        refine wp_region_reg (by kernel_rfl) (by kernel_rfl) ?_
        repeat (first | go_big_quiet_step ((fail)) | quiet_step ((fail)))
        refine wpQuiet_nil ?_
        intro _ hcw1
        obtain ⟨pq, hcw2⟩ := hcw1
        subst hcw2
        go_wp2_with fail
        go_roundw
        case rel => exact ⟨i + 1, by rw [HWS.out]; rfl, HLT.out, by rw [HTK.out, List.map_append, List.mem_append]; rintro (h | h); exact HNI.out h; simp at h; exact HYK.out h.symm, grows_trans _ _ _ HGG.out (below_reg _ _)⟩
        case measure => rw [HWS.out]; exact meas_succ HLT.out
    · obtain rfl : i = n := Nat.le_antisymm hi (Nat.le_of_not_lt hlt)
      have hr : r = -1 := by
        rw [← ER.out]
        have h9 := HNI.out
        rw [List.take_of_length_le (by rw [EN.out]; exact Nat.le_refl _)] at h9
        exact atR_none h9
      have HR := Lib.hid hr
      clear hha hlt hi hr
      go_wp2_with fail
      go_ret
      exact ⟨by rw [HR.out]; rfl, grows_trans _ _ _ HG.out HGG.out⟩
end
theorem rnew_any (n : Int) (w : World) : Calls Tryd.prog 22 #[.int .i64 n] w (RetV w (dval (.slice none 0 0) (mostOfI n))) := by
  obtain ⟨k, ek⟩ : ∃ k, mostOfI n = k := ⟨_, rfl⟩
  have h3 : (n < 0 ∧ k = 0) ∨ (0 ≤ n ∧ n ≤ 65536 ∧ n = (k : Int)) ∨ (65536 < n ∧ k = 65536) := by rw [← ek]; unfold mostOfI; omega
  rw [ek]
  clear ek
  rcases h3 with ⟨h1, rfl⟩ | ⟨h1, h2, rfl⟩ | ⟨h1, rfl⟩
  all_goals (
    go_enter Tryd.func22, Tryd.ntmps22
    go_wp2)
  all_goals (
    refine bodyPost_ret (v := _) (by simp [results, Tryd.results22, go_sem]; rfl) rfl ?_
    exact ⟨rfl, by show Below w.heap.size w _; (repeat (first | with_reducible exact Below.refl _ _ | with_reducible refine bl_alloc ?_ _ | ((with_reducible refine bl_set ?_ ?_ _); rotate_left; (first | exact Nat.le_refl _ | exact Nat.le_succ_of_le (Nat.le_refl _) | (simp only []; omega))) | with_reducible refine bl_drewN ?_ _ | with_reducible refine bl_drew ?_ | with_reducible refine bl_reg ?_ _))⟩)
end Go.Proofs.YtgjieoljfcfacaaDoor
/- The document's Put: the walk. -/
/- The document's Put. -/
namespace Go.Proofs.YtgjieoljfcfacaaDoor
open Go.RowKit Go.Sort
set_option maxHeartbeats 4000000
set_option maxRecDepth 100000
/-- What the document's Put leaves of the rows. -/
def putR (l : List DR) (M : Nat) (k : KW) (x : Int) : List DR := if putE (l.map tv) M k = 0 then insT l k x else l
/-- What a call leaves that gives back a table of the document. -/
def RTab (w : World) (base : Nat) (l : List DR) (M : Nat) (R : Value → Value) (e : Ending) (w' : World) : Prop := ∃ v', e = .returned (R (dval v' M)) ∧ Grows w w' ∧ ROwn w' base v' l
theorem getK_tv {l : List DR} {k : KW} : getK (l.map tv) k = none ↔ k ∉ l.map (·.1) := by rw [getK_none, tv_keys]
theorem putE_dup {l : List DR} {M : Nat} {k : KW} (h : k ∈ l.map (·.1)) : putE (l.map tv) M k = 12 := by
  unfold putE
  rw [if_pos (fun e => getK_tv.1 e h)]
theorem putE_full {l : List DR} {M : Nat} {k : KW} (h : k ∉ l.map (·.1)) (hl : M ≤ l.length) : putE (l.map tv) M k = 13 := by
  unfold putE
  rw [if_neg (by rw [getK_tv.2 h]; simp), if_pos (by rw [List.length_map]; exact hl)]
theorem putE_ok {l : List DR} {M : Nat} {k : KW} (h : k ∉ l.map (·.1)) (hl : ¬ M ≤ l.length) : putE (l.map tv) M k = 0 := by
  unfold putE
  rw [if_neg (by rw [getK_tv.2 h]; simp), if_neg (by rw [List.length_map]; exact hl)]
theorem atR_mem {l : List DR} {k : KW} (h : k ∈ l.map (·.1)) : ∃ i : Nat, atR l k = (i : Int) ∧ i < l.length := by
  unfold atR
  cases hf : l.findIdx? (fun p => decide (p.1 = k)) with
  | none =>
    rw [List.findIdx?_eq_none_iff] at hf
    obtain ⟨p, hp, e⟩ := List.mem_map.1 h
    have := hf p hp
    simp [e] at this
  | some i => exact ⟨i, rfl, (List.findIdx?_eq_some_iff_getElem.1 hf).1⟩
theorem insT_at (l : List DR) (k : KW) (x : Int) : insT l k x = l.take (posK (l.map (·.1)) k) ++ (k, x) :: l.drop (posK (l.map (·.1)) k) := by
  have h1 : (l.takeWhile fun p => lessK p.1 k).length = posK (l.map (·.1)) k := by
    unfold posK
    rw [← map_takeWhile' (fun p : DR => p.1) (fun y => lessK y k) l, List.length_map]
  have h2 := List.takeWhile_append_dropWhile (p := fun p : DR => lessK p.1 k) (l := l)
  unfold insT
  rw [← h1]
  conv => rhs; rw [← h2]
  rw [h2]
  congr 1
  · conv => rhs; rw [← h2]
    rw [h2, show l.take (l.takeWhile fun p => lessK p.1 k).length = ((l.takeWhile fun p => lessK p.1 k) ++ l.dropWhile fun p => lessK p.1 k).take (l.takeWhile fun p => lessK p.1 k).length by rw [h2], List.take_left]
  · congr 1
    rw [show l.drop (l.takeWhile fun p => lessK p.1 k).length = ((l.takeWhile fun p => lessK p.1 k) ++ l.dropWhile fun p => lessK p.1 k).drop (l.takeWhile fun p => lessK p.1 k).length by rw [h2], List.drop_left]
theorem takeWhile_imp {α : Type} {p : α → Bool} {x : α} : ∀ {l : List α}, x ∈ l.takeWhile p → p x = true
  | [], h => by simp at h
  | a :: l, h => by
    rw [List.takeWhile_cons] at h
    split at h
    · rcases List.mem_cons.1 h with rfl | h
      · assumption
      · exact takeWhile_imp h
    · simp at h
theorem pos_less {l : List DR} {k : KW} {i : Nat} (hi : i < l.length) : (i < posK (l.map (·.1)) k → lessK (l[i]).1 k = true) ∧ (i = posK (l.map (·.1)) k → lessK (l[i]).1 k = false) := by
  have h1 := (take_pos (l.map (·.1)) k)
  have h2 := (drop_pos (l.map (·.1)) k)
  constructor
  · intro h
    have hm : (l[i]).1 ∈ (l.map (·.1)).take (posK (l.map (·.1)) k) := by
      rw [List.mem_take_iff_getElem]
      exact ⟨i, by rw [List.length_map]; omega, by rw [List.getElem_map]⟩
    rw [h1] at hm
    exact takeWhile_imp (p := fun y => lessK y k) hm
  · intro h
    subst h
    have hd : (l.map (·.1)).drop (posK (l.map (·.1)) k) = (l[posK (l.map (·.1)) k]).1 :: (l.map (·.1)).drop (posK (l.map (·.1)) k + 1) := by
      rw [List.drop_eq_getElem_cons (by rw [List.length_map]; exact hi), List.getElem_map]
    rw [h2] at hd
    have := List.head?_dropWhile_not (fun y => lessK y k) (l.map (·.1))
    rw [hd] at this
    simpa using this
end Go.Proofs.YtgjieoljfcfacaaDoor
namespace Go.Proofs.YtgjieoljfcfacaaDoor
open Go.RowKit Go.Sort
set_option maxHeartbeats 4000000
set_option maxRecDepth 100000
theorem three_new (w : World) (A B C : Obj) : let W := ((w.alloc A).alloc B).alloc C; W.heap[w.heap.size]? = some A ∧ W.heap[w.heap.size + 1]? = some B ∧ W.heap[w.heap.size + 2]? = some C ∧ Grows w W := by
  have h1 := two_new w A B
  have h2 := heap_alloc_new ((w.alloc A).alloc B) C
  have g : Grows ((w.alloc A).alloc B) (((w.alloc A).alloc B).alloc C) := bl_alloc (Below.refl _ _) _
  refine ⟨box_grows h1.1 g, box_grows h1.2 g, ?_, bl_alloc (bl_alloc (bl_alloc (Below.refl _ _) _) _) _⟩
  simp only [World.size_alloc] at h2
  exact h2
theorem rtab_end {w wx : World} {base b : Nat} {v u0 u1 : Value} {l : List DR} (M : Nat) (hg : Grows w wx) (eb : w.heap.size = b) (j : Nat) (hj : b ≤ j) (h2 : wx.heap[j]? = some (.cells #[u0, u1] 39 (0, 0))) (ho : ROwn wx base v l) :
    Grows w ((wx.setCell ⟨j, 0, none⟩ v).setCell ⟨j, 1, none⟩ (.int .i64 (M : Int))) ∧ ROwn ((wx.setCell ⟨j, 0, none⟩ v).setCell ⟨j, 1, none⟩ (.int .i64 (M : Int))) base v l ∧
      ((wx.setCell ⟨j, 0, none⟩ v).setCell ⟨j, 1, none⟩ (.int .i64 (M : Int))).cell? ⟨j, 0, none⟩ = some v ∧ ((wx.setCell ⟨j, 0, none⟩ v).setCell ⟨j, 1, none⟩ (.int .i64 (M : Int))).cell? ⟨j, 1, none⟩ = some (.int .i64 (M : Int)) := by
  have hc : Chg (fun i => i = j) wx ((wx.setCell ⟨j, 0, none⟩ v).setCell ⟨j, 1, none⟩ (.int .i64 (M : Int))) := Chg.setCell (S := fun i => i = j) (Chg.setCell (S := fun i => i = j) (Chg.refl _ _) _ (.inr rfl)) _ (.inr rfl)
  have h3 := box_setj (j := 0) (v := v) h2
  have h4 := box_setj (j := 1) (v := .int .i64 (M : Int)) h3
  refine ⟨?_, hc.own ho (fun i hi e => ?_), (cell_in h4 0 rfl).1, (cell_in h4 1 rfl).1⟩
  · refine ((Chg.ofGrows hg).trans (S := fun i => i = j) hc).toGrows fun i hi e => ?_
    rw [e, eb] at hi
    omega
  · obtain ⟨cur, hcur⟩ := ROwn.ty ho hi
    rw [e, h2] at hcur
    injection hcur with hcur
    injection hcur with _ hcur
    exact absurd hcur (by decide)
/-- The rows ahead, then a row, then those behind: three appends. -/
theorem put_chain {W3 : World} {l : List DR} {i : Nat} {k : KW} {x : Int} {u1 u2 : Value} (hs1 : ∀ W', Grows W3 W' → RSrc W' u1 (l.take i)) (hs2 : ∀ W', Grows W3 W' → RSrc W' u2 (l.drop i)) (hl : l.length ≤ 10000) :
    ∃ v5 W5, (∀ ty, (Builtin.append_ #[37, 37] ty #[.slice (some ⟨W3.heap.size, 0, none⟩) 0 0, u1]).run Tryd.prog (W3.alloc (.cells #[] 131)) = .ok v5 W5) ∧ Grows W3 W5 ∧
    ∃ v7 W7, (∀ ty, (Builtin.append_ #[37, 37] ty #[v5, .slice (some ⟨W5.heap.size, 0, none⟩) 1 1]).run Tryd.prog (W5.alloc (.cells #[.int .i64 k.t, .int .i64 k.f, .int .u32 k.s, .int .i64 x] 131)) = .ok v7 W7) ∧ Grows W3 W7 ∧
    ∃ a8 n8 c8 W8, (∀ ty, (Builtin.append_ #[37, 37] ty #[v7, u2]).run Tryd.prog W7.drew = .ok (.slice a8 n8 c8) W8) ∧ Grows W3 W8 ∧ ROwn W8 W3.heap.size (.slice a8 n8 c8) (l.take i ++ (k, x) :: l.drop i) := by
  have hl1 : (l.take i).length ≤ 10000 := Nat.le_trans (List.length_take_le' _ _) hl
  have hl2 : (l.drop i).length ≤ 10000 := by rw [List.length_drop]; omega
  have g4 : Grows W3 (W3.alloc (.cells #[] 131)) := bl_alloc (Below.refl _ _) _
  have o4 : ROwn (W3.alloc (.cells #[] 131)) W3.heap.size (.slice (some ⟨W3.heap.size, 0, none⟩) 0 0) [] := World.ownsRow_lit W3 #[] 0 (Nat.le_refl _) (by decide) rfl
  obtain ⟨v5, W5, r5, o5, b5⟩ := rapp_run o4 (hs1 _ g4) (by simp only [List.length_nil]; omega) g4.size
  have g5 := grows_of_grownBy g4 b5 (fun j hj => (o4.lt j hj).1)
  have g6 : Grows W5 (W5.alloc (.cells #[.int .i64 k.t, .int .i64 k.f, .int .u32 k.s, .int .i64 x] 131)) := bl_alloc (Below.refl _ _) _
  have s6 : RSrc (W5.alloc (.cells #[.int .i64 k.t, .int .i64 k.f, .int .u32 k.s, .int .i64 x] 131)) (.slice (some ⟨W5.heap.size, 0, none⟩) 1 1) [(k, x)] :=
    .inr ⟨_, 1, rfl, fun j u hj => by
      rw [addr_add, Nat.zero_add]
      exact (cell_in (heap_alloc_new W5 _) j (by simpa [rvs, rc] using hj)).1⟩
  have o6 := own_grows o5 g6
  have g36 := grows_trans _ _ _ g5 g6
  obtain ⟨v7, W7, r7, o7, b7⟩ := rapp_run (l := [] ++ l.take i) o6 s6 (by simp; omega) g36.size
  have g7 := grows_of_grownBy g36 b7 (fun j hj => (o6.lt j hj).1)
  have gd : Grows W7 W7.drew := bl_drew (Below.refl _ _)
  have o7d := own_grows o7 gd
  have g7d := grows_trans _ _ _ g7 gd
  obtain ⟨v8, W8, r8, o8, b8⟩ := rapp_run o7d (hs2 _ g7d) (by simp; omega) g7d.size
  have g8 := grows_of_grownBy g7d b8 (fun j hj => (o7d.lt j hj).1)
  obtain ⟨a8, c8, rfl⟩ := ROwn.len o8 rfl
  refine ⟨v5, W5, r5, g5, v7, W7, r7, g7, a8, _, c8, W8, r8, g8, ?_⟩
  simpa using o8
theorem rput_any {v : Value} {l : List DR} {w : World} {base M : Nat} (k : KW) (x : Int) (h : ROwn w base v l) (hm : l.length ≤ 10000) (hb : base ≤ w.heap.size) :
    Calls Tryd.prog 53 #[dval v M, k.val, .int .i64 x] w (RTab w base (putR l M k x) M (fun t => .tuple #[t, .int .i64 (putE (l.map tv) M k)])) := by
  obtain ⟨n, en⟩ : ∃ n, l.length = n := ⟨_, rfl⟩
  obtain ⟨b, eb⟩ : ∃ b, w.heap.size = b := ⟨_, rfl⟩
  obtain ⟨r, er⟩ : ∃ r, putE (l.map tv) M k = r := ⟨_, rfl⟩
  obtain ⟨lp, elp⟩ : ∃ lp, putR l M k x = lp := ⟨_, rfl⟩
  rw [er, elp]
  obtain ⟨a, cap, rfl⟩ := ROwn.len h en
  have hq3 := three_new w (.cells #[.slice a n cap, .int .i64 (M : Int)] 39) (.cells #[.int .i64 k.t, .int .i64 k.f, .int .u32 k.s] 29) (.cells #[.slice none 0 0, .int .i64 0] 39)
  obtain ⟨W, eW⟩ : ∃ W, ((w.alloc (.cells #[.slice a n cap, .int .i64 (M : Int)] 39)).alloc (.cells #[.int .i64 k.t, .int .i64 k.f, .int .u32 k.s] 29)).alloc (.cells #[.slice none 0 0, .int .i64 0] 39) = W := ⟨_, rfl⟩
  rw [eW, eb] at hq3
  have HA := Lib.hid (fun W (hg : Grows w W) => rat_any (M := M) k (own_grows h hg) (Nat.le_trans hm (by decide)))
  obtain ⟨h0, h1, h2, hg⟩ := hq3
  have HH := Lib.hid h
  have HG := Lib.hid hg
  have HM := Lib.hid hm
  have EN := Lib.hid en
  have EB := Lib.hid eb
  have z0 := box_lt h0
  have z1 := box_lt h1
  have z2 := box_lt h2
  obtain ⟨a0, -⟩ := cell_in h0 0 rfl
  obtain ⟨a1, -⟩ := cell_in h0 1 rfl
  obtain ⟨b0, -⟩ := cell_in h1 0 rfl
  obtain ⟨b1, -⟩ := cell_in h1 1 rfl
  obtain ⟨b2, -⟩ := cell_in h1 2 rfl
  have H0 := Lib.hid (And.intro h0 (And.intro h1 h2))
  rw [eb] at hb
  have HB := Lib.hid hb
  have ER := Lib.hid er
  have ELP := Lib.hid elp
  clear h hg hm en h0 h1 h2 hb er elp
  go_enter Tryd.func53, Tryd.ntmps53
  go_wp2_with fail
  refine (HA.out _ HG.out).mono ?_
  rintro e w1 ⟨rfl, hg1⟩
  have HG1 := Lib.hid (grows_trans _ _ _ HG.out hg1)
  obtain ⟨h0, h1, h2⟩ := H0.out
  have h0 := box_grows h0 hg1
  have h1 := box_grows h1 hg1
  have h2 := box_grows h2 hg1
  have z0 := box_lt h0
  have z1 := box_lt h1
  have z2 := box_lt h2
  clear a0 a1 b0 b1 b2
  obtain ⟨a0, -⟩ := cell_in h0 0 rfl
  obtain ⟨a1, -⟩ := cell_in h0 1 rfl
  obtain ⟨b0, -⟩ := cell_in h1 0 rfl
  obtain ⟨b1, -⟩ := cell_in h1 1 rfl
  obtain ⟨b2, -⟩ := cell_in h1 2 rfl
  obtain ⟨c0, c0f⟩ := cell_in h2 0 rfl
  obtain ⟨c1, c1f⟩ := cell_in h2 1 rfl
  have c0f : w1.frozen? ⟨b + 1 + 1, 0, none⟩ = false := c0f
  have c1f : w1.frozen? ⟨b + 1 + 1, 1, none⟩ = false := c1f
  have z2' : b + 1 + 1 < w1.heap.size := z2
  have H1 := Lib.hid (And.intro h0 (And.intro h1 h2))
  clear hg1 h0 h1 h2 eW
  by_cases hk : k ∈ l.map (·.1)
  · obtain ⟨i, hi, hil⟩ := atR_mem hk
    have he := putE_dup (M := M) hk
    have hp : putR l M k x = l := by unfold putR; rw [he, if_neg (by decide)]
    rw [hi]
    rw [ER.out] at he
    rw [ELP.out] at hp
    have HE := Lib.hid (And.intro he hp)
    have hge : (0 : Int) ≤ (i : Int) := Int.natCast_nonneg i
    clear hi hil he hp hk
    go_wp2_with fail
    obtain ⟨k1, k2, q0, q1⟩ := rtab_end M HG1.out EB.out (b + 1 + 1) (by omega) H1.out.2.2 (own_grows HH.out HG1.out)
    exact bodyPost_ret (v := .tuple #[dval (.slice a n cap) M, .int .i64 12]) (by simp [results, Tryd.results53, go_sem, q0, q1]) rfl ⟨_, by rw [HE.out.1], k1, by rw [HE.out.2]; exact k2⟩
  · rw [atR_none hk]
    by_cases hM : M ≤ n
    · have he := putE_full hk (by rw [EN.out]; exact hM)
      have hp : putR l M k x = l := by unfold putR; rw [he, if_neg (by decide)]
      rw [ER.out] at he
      rw [ELP.out] at hp
      have HE := Lib.hid (And.intro he hp)
      have hMi : (M : Int) ≤ (n : Int) := Int.ofNat_le.2 hM
      clear he hp hk
      go_wp2_with fail
      obtain ⟨k1, k2, q0, q1⟩ := rtab_end M HG1.out EB.out (b + 1 + 1) (by omega) H1.out.2.2 (own_grows HH.out HG1.out)
      exact bodyPost_ret (v := .tuple #[dval (.slice a n cap) M, .int .i64 13]) (by simp [results, Tryd.results53, go_sem, q0, q1]) rfl ⟨_, by rw [HE.out.1], k1, by rw [HE.out.2]; exact k2⟩
    · have he := putE_ok hk (by rw [EN.out]; exact hM)
      have hp : putR l M k x = insT l k x := by unfold putR; rw [he, if_pos rfl]
      rw [ER.out] at he
      rw [ELP.out] at hp
      have HE := Lib.hid (And.intro he hp)
      have hMi : (n : Int) < (M : Int) := Int.ofNat_lt.2 (Nat.lt_of_not_le hM)
      clear he hp hk
      go_wp2_with fail
      obtain ⟨p, ep⟩ : ∃ p, posK (l.map (·.1)) k = p := ⟨_, rfl⟩
      have EP := Lib.hid ep
      have hpn : p ≤ n := by rw [← ep, ← EN.out]; have := posK_le (l.map (·.1)) k; rwa [List.length_map] at this
      have HPN := Lib.hid hpn
      clear ep hpn hM c0 c1 c0f c1f
      go_loopw [8] (fun iv wr => ∃ i : Nat, iv = .int .i64 (i : Int) ∧ i ≤ p ∧ Grows w1 wr) (fun iv _ => p - (intOf iv).toNat)
      case atStart => exact ⟨0, rfl, Nat.zero_le _, grows_refl _⟩
      case round =>
        obtain ⟨i, rfl, hi, hg⟩ := hrel
        have h0 := box_grows H1.out.1 hg
        have h1 := box_grows H1.out.2.1 hg
        have hha := own_grows HH.out (grows_trans _ _ _ HG1.out hg)
        have z0 := box_lt h0
        have z1 := box_lt h1
        clear a0 a1 b0 b1 b2 z2 z2'
        obtain ⟨a0, -⟩ := cell_in h0 0 rfl
        obtain ⟨a1, -⟩ := cell_in h0 1 rfl
        obtain ⟨b0, -⟩ := cell_in h1 0 rfl
        obtain ⟨b1, -⟩ := cell_in h1 1 rfl
        obtain ⟨b2, -⟩ := cell_in h1 2 rfl
        have HGG := Lib.hid hg
        clear h0 h1 hg
        by_cases hlt : i < p
        · have hln : i < n := Nat.lt_of_lt_of_le hlt HPN.out
          have hn6 : i ≤ 1000000 := Nat.le_trans (Nat.le_of_lt hln) (by rw [← EN.out]; exact Nat.le_trans HM.out (by decide))
          have HNF := Lib.hid (nat_facts i hn6)
          have HWS := Lib.hid (wrap_succ hn6)
          have HLT := Lib.hid hlt
          have hnl : i < l.length := by rw [EN.out]; exact hln
          obtain ⟨g, c', he, hcap, hgl, hat⟩ := ROwn.form hha EN.out (Nat.lt_of_le_of_lt (Nat.zero_le _) hln)
          simp only [Value.slice.injEq, true_and] at he
          obtain ⟨rfl, rfl⟩ := he
          obtain ⟨p0, p1, p2, -⟩ := rat_cells hat i hnl
          rw [Nat.zero_add] at p0 p1 p2
          have hls := (pos_less (k := k) hnl).1 (by rw [EP.out]; exact hlt)
          obtain ⟨y, ey⟩ : ∃ y, l[i] = y := ⟨_, rfl⟩
          rw [ey] at p0 p1 p2 hls
          have HLS := Lib.hid (fun W => rless_any y.1 k W)
          rw [hls] at HLS
          have hki : (i : Int) < (n : Int) := Int.ofNat_lt.2 hln
          clear hls ey hat hha hnl hcap hlt hn6 hi hln
          obtain ⟨j1, j2, j3, j4, j6⟩ := HNF.out
          go_wp2_with fail
          refine wp_region_reg (by kernel_rfl) (by kernel_rfl) ?_
          repeat (first | go_big_quiet_step ((go_at_call 75; exact class_reg (HLS.out _))) | quiet_step ((go_at_call 75; exact class_reg (HLS.out _))))
          refine wpQuiet_nil ?_
          intro _ hcw1
          obtain ⟨pq, hcw2⟩ := hcw1
          subst hcw2
          go_wp2_with fail
          go_roundw
          case rel => exact ⟨i + 1, by rw [HWS.out]; rfl, HLT.out, grows_trans _ _ _ HGG.out (below_reg _ _)⟩
          case measure => rw [HWS.out]; exact meas_succ HLT.out
        · obtain rfl : i = p := Nat.le_antisymm hi (Nat.le_of_not_lt hlt)
          have hi6 : i ≤ 1000000 := Nat.le_trans HPN.out (by rw [← EN.out]; exact Nat.le_trans HM.out (by decide))
          have HNF := Lib.hid (nat_facts i hi6)
          have hin := HPN.out
          have HIN := Lib.hid (fun (hnl : i < l.length) => (pos_less (k := k) hnl).2 EP.out.symm)
          have HEND := Lib.hid (fun W3 (hg : Grows w1 W3) (u1 u2 : Value) (hs1 : ∀ W', Grows W3 W' → RSrc W' u1 (l.take i)) (hs2 : ∀ W', Grows W3 W' → RSrc W' u2 (l.drop i)) => put_chain (k := k) (x := x) hs1 hs2 HM.out)
          have HIT := Lib.hid (show l.take i ++ (k, x) :: l.drop i = insT l k x by rw [insT_at, EP.out])
          have arms : (l = [] ∧ n = 0 ∧ i = 0 ∧ a = none ∧ cap = 0) ∨ (∃ g, a = some ⟨g, 0, none⟩ ∧ n ≤ cap ∧ g < wr.heap.size ∧ RAt rc 4 wr g 0 l ∧ ((i < n ∧ i < l.length ∧ cap ≠ i) ∨ (i = n ∧ cap ≠ i) ∨ (i = n ∧ cap = i))) := by
            rcases rform hha with ⟨hnil, hv⟩ | ⟨g, cap', hv, hcap, hbg, hgl, hat⟩
            · simp only [Value.slice.injEq] at hv
              obtain ⟨rfl, rfl, rfl⟩ := hv
              exact .inl ⟨hnil, rfl, Nat.le_zero.1 hin, rfl, rfl⟩
            · rw [EN.out] at hv hcap
              simp only [Value.slice.injEq, true_and] at hv
              obtain ⟨rfl, rfl⟩ := hv
              refine .inr ⟨g, rfl, hcap, hgl, hat, ?_⟩
              by_cases h1 : i < n
              · exact .inl ⟨h1, by rw [EN.out]; exact h1, by omega⟩
              · by_cases h2 : cap = i
                · exact .inr (.inr ⟨by omega, h2⟩)
                · exact .inr (.inl ⟨by omega, h2⟩)
          have EI := Lib.hid (show i ≤ n from hin)
          clear hha hlt hi hin hi6
-- arms (docputgen.py)
          rcases arms with ⟨hl, rfl, rfl, rfl, rfl⟩ | ⟨g, rfl, hcap, hgl, hat, harm⟩
          · have hs1 : ∀ W', Grows wr W' → RSrc W' (.slice none 0 0) (l.take 0) := fun W' _ => .inl ⟨by simp, rfl⟩
            have hs2 : ∀ W', Grows wr W' → RSrc W' (.slice none 0 0) (l.drop 0) := fun W' _ => .inl ⟨by simp [hl], rfl⟩
            have HS := Lib.hid (And.intro hs1 hs2)
            clear hs1 hs2 hl
            go_wp2_with fail
            refine wp_region_reg (by kernel_rfl) (by kernel_rfl) ?_
            repeat (first | go_big_quiet_step ((fail)) | quiet_step ((fail)))
            refine wpQuiet_nil ?_
            intro _ hcw1
            obtain ⟨pq, hcw2⟩ := hcw1
            subst hcw2
            have hg3 : Grows wr (reg wr pq) := below_reg _ _
            obtain ⟨W3, eW3⟩ : ∃ W3, reg wr pq = W3 := ⟨_, rfl⟩
            rw [eW3] at hg3 ⊢
            obtain ⟨v5, W5, r5, g5, v7, W7, r7, g7, a8, n8, c8, W8, r8, g8, o8⟩ := HEND.out W3 (grows_trans _ _ _ HGG.out hg3) _ _ (fun W' hW => HS.out.1 W' (grows_trans _ _ _ hg3 hW)) (fun W' hW => HS.out.2 W' (grows_trans _ _ _ hg3 hW))
            have G := Lib.hid (And.intro hg3 (And.intro g5 (And.intro g7 (And.intro g8 o8))))
            have gb3 := grows_trans _ _ _ HGG.out hg3
            have F := fun W' (hW : Grows W3 W') => And.intro (box_grows H1.out.1 (grows_trans _ _ _ gb3 hW)) (And.intro (box_grows H1.out.2.1 (grows_trans _ _ _ gb3 hW)) (box_grows H1.out.2.2 (grows_trans _ _ _ gb3 hW)))
            have z0 := box_lt (F W3 (grows_refl _)).1
            have zz := box_lt (F W5 g5).2.1
            obtain ⟨a0, -⟩ := cell_in (F W3 (grows_refl _)).1 0 rfl
            obtain ⟨b0, -⟩ := cell_in (F W5 g5).2.1 0 rfl
            obtain ⟨b1, -⟩ := cell_in (F W5 g5).2.1 1 rfl
            obtain ⟨b2, -⟩ := cell_in (F W5 g5).2.1 2 rfl
            obtain ⟨d7, -⟩ := cell_in (F W7 g7).1 0 rfl
            obtain ⟨d71, -⟩ := cell_in (F W7 g7).1 1 rfl
            obtain ⟨d8, -⟩ := cell_in (F W8 g8).1 0 rfl
            obtain ⟨d81, -⟩ := cell_in (F W8 g8).1 1 rfl
            obtain ⟨c0, c0f⟩ := cell_in (F W8 g8).2.2 0 rfl
            obtain ⟨c1, c1f⟩ := cell_in (F W8 g8).2.2 1 rfl
            have c0f : W8.frozen? ⟨b + 1 + 1, 0, none⟩ = false := c0f
            have c1f : W8.frozen? ⟨b + 1 + 1, 1, none⟩ = false := c1f
            have z8 : b + 1 + 1 < W8.heap.size := box_lt (F W8 g8).2.2
            have HF := Lib.hid F
            clear F hg3 g5 g7 g8 o8 gb3 eW3
            go_wp2_with (at_builtin; first | refine wpList_append_run _ rfl _ _ 37 37 rfl _ _ rfl rfl (r5 _) ?_ | refine wpList_append_run _ rfl _ _ 37 37 rfl _ _ rfl rfl (r7 _) ?_)
            have mixed : Tryd.prog.follows .mixedOrders = true := by kernel_rfl
            go_region_law (refine step_append_run rfl _ _ 37 37 rfl _ _ (by simp [Act.eval, Act.put]) (by simp [Act.eval, Act.put]) (r8 _) ?_)
            all_goals (
              go_wp2
              obtain ⟨hg3, g5, g7, g8, o8⟩ := G.out
              obtain ⟨k1, k2, q0, q1⟩ := rtab_end M (grows_trans _ _ _ HG1.out (grows_trans _ _ _ HGG.out (grows_trans _ _ _ hg3 g8))) EB.out (b + 1 + 1) (by omega) (HF.out W8 g8).2.2 o8
              refine bodyPost_ret (v := .tuple #[dval (.slice a8 n8 c8) M, .int .i64 0]) (by simp [results, Tryd.results53, go_sem, q0, q1]) rfl ⟨_, by rw [HE.out.1], k1, ?_⟩
              rw [HE.out.2, ← HIT.out]
              exact row_base k2 (Nat.le_trans HB.out (by rw [← EB.out]; exact (grows_trans _ _ _ HG1.out (grows_trans _ _ _ HGG.out hg3)).size)))
          · have hs1 : ∀ W', Grows wr W' → RSrc W' (.slice (some ⟨g, 0, none⟩) i cap) (l.take i) := fun W' hW => by
              have := rsrc_take (hat.grows hW hgl) i cap
              rwa [List.length_take, EN.out, Nat.min_eq_left EI.out] at this
            have hlt2 : (l.drop i).length = n - i := by rw [List.length_drop, EN.out]
            obtain ⟨j1, j2, j3, j4, j6⟩ := HNF.out
            rcases harm with ⟨hin, hil, hci⟩ | ⟨rfl, hci⟩ | ⟨rfl, rfl⟩
            · have hs2 : ∀ W', Grows wr W' → RSrc W' (.slice (some ⟨g, i * 4, none⟩) (n - i) (cap - i)) (l.drop i) := fun W' hW => by
                have := rsrc_at (hat.grows hW hgl) i (cap - i)
                rwa [Nat.zero_add, hlt2] at this
              have HS := Lib.hid (And.intro hs1 hs2)
              obtain ⟨p0, p1, p2, -⟩ := rat_cells hat i hil
              rw [Nat.zero_add] at p0 p1 p2
              have hls := HIN.out hil
              obtain ⟨y, ey⟩ : ∃ y, l[i] = y := ⟨_, rfl⟩
              rw [ey] at p0 p1 p2 hls
              have HLS := Lib.hid (fun W => rless_any y.1 k W)
              rw [hls] at HLS
              have hki : (i : Int) < (n : Int) := Int.ofNat_lt.2 hin
              have hq3 : (cap = i) = False := eq_false hci
              have hq4 : i ≤ n := EI.out
              have hq5 : i ≤ cap := Nat.le_trans hq4 hcap
              clear hs1 hs2 hls ey hil hat hci hlt2 hin
              go_wp2_with fail
              refine wp_region_reg (by kernel_rfl) (by kernel_rfl) ?_
              repeat (first | go_big_quiet_step ((go_at_call 75; exact class_reg (HLS.out _))) | quiet_step ((go_at_call 75; exact class_reg (HLS.out _))))
              refine wpQuiet_nil ?_
              intro _ hcw1
              obtain ⟨pq, hcw2⟩ := hcw1
              subst hcw2
              clear p0 p1 p2 hki HLS a1 z1 j1 j3 j6
              have hg3 : Grows wr (reg wr pq) := below_reg _ _
              obtain ⟨W3, eW3⟩ : ∃ W3, reg wr pq = W3 := ⟨_, rfl⟩
              rw [eW3] at hg3 ⊢
              obtain ⟨v5, W5, r5, g5, v7, W7, r7, g7, a8, n8, c8, W8, r8, g8, o8⟩ := HEND.out W3 (grows_trans _ _ _ HGG.out hg3) _ _ (fun W' hW => HS.out.1 W' (grows_trans _ _ _ hg3 hW)) (fun W' hW => HS.out.2 W' (grows_trans _ _ _ hg3 hW))
              have G := Lib.hid (And.intro hg3 (And.intro g5 (And.intro g7 (And.intro g8 o8))))
              have gb3 := grows_trans _ _ _ HGG.out hg3
              have F := fun W' (hW : Grows W3 W') => And.intro (box_grows H1.out.1 (grows_trans _ _ _ gb3 hW)) (And.intro (box_grows H1.out.2.1 (grows_trans _ _ _ gb3 hW)) (box_grows H1.out.2.2 (grows_trans _ _ _ gb3 hW)))
              have z0 := box_lt (F W3 (grows_refl _)).1
              have zz := box_lt (F W5 g5).2.1
              obtain ⟨a0, -⟩ := cell_in (F W3 (grows_refl _)).1 0 rfl
              obtain ⟨b0, -⟩ := cell_in (F W5 g5).2.1 0 rfl
              obtain ⟨b1, -⟩ := cell_in (F W5 g5).2.1 1 rfl
              obtain ⟨b2, -⟩ := cell_in (F W5 g5).2.1 2 rfl
              obtain ⟨d7, -⟩ := cell_in (F W7 g7).1 0 rfl
              obtain ⟨d71, -⟩ := cell_in (F W7 g7).1 1 rfl
              obtain ⟨d8, -⟩ := cell_in (F W8 g8).1 0 rfl
              obtain ⟨d81, -⟩ := cell_in (F W8 g8).1 1 rfl
              obtain ⟨c0, c0f⟩ := cell_in (F W8 g8).2.2 0 rfl
              obtain ⟨c1, c1f⟩ := cell_in (F W8 g8).2.2 1 rfl
              have c0f : W8.frozen? ⟨b + 1 + 1, 0, none⟩ = false := c0f
              have c1f : W8.frozen? ⟨b + 1 + 1, 1, none⟩ = false := c1f
              have z8 : b + 1 + 1 < W8.heap.size := box_lt (F W8 g8).2.2
              have HF := Lib.hid F
              clear F hg3 g5 g7 g8 o8 gb3 eW3
              go_wp2_with (at_builtin; first | refine wpList_append_run _ rfl _ _ 37 37 rfl _ _ rfl rfl (r5 _) ?_ | refine wpList_append_run _ rfl _ _ 37 37 rfl _ _ rfl rfl (r7 _) ?_)
              have mixed : Tryd.prog.follows .mixedOrders = true := by kernel_rfl
              go_region_law (refine step_append_run rfl _ _ 37 37 rfl _ _ (by simp [Act.eval, Act.put]) (by simp [Act.eval, Act.put]) (r8 _) ?_)
              all_goals (
                go_wp2
                obtain ⟨hg3, g5, g7, g8, o8⟩ := G.out
                obtain ⟨k1, k2, q0, q1⟩ := rtab_end M (grows_trans _ _ _ HG1.out (grows_trans _ _ _ HGG.out (grows_trans _ _ _ hg3 g8))) EB.out (b + 1 + 1) (by omega) (HF.out W8 g8).2.2 o8
                refine bodyPost_ret (v := .tuple #[dval (.slice a8 n8 c8) M, .int .i64 0]) (by simp [results, Tryd.results53, go_sem, q0, q1]) rfl ⟨_, by rw [HE.out.1], k1, ?_⟩
                rw [HE.out.2, ← HIT.out]
                exact row_base k2 (Nat.le_trans HB.out (by rw [← EB.out]; exact (grows_trans _ _ _ HG1.out (grows_trans _ _ _ HGG.out hg3)).size)))
            · have hs2 : ∀ W', Grows wr W' → RSrc W' (.slice (some ⟨g, i * 4, none⟩) 0 (cap - i)) (l.drop i) := fun W' hW => by
                have := rsrc_at (hat.grows hW hgl) i (cap - i)
                rwa [Nat.zero_add, hlt2, Nat.sub_self] at this
              have HS := Lib.hid (And.intro hs1 hs2)
              have hq3 : (cap = i) = False := eq_false hci
              clear hs1 hs2 hat hci hlt2
              go_wp2_with fail
              refine wp_region_reg (by kernel_rfl) (by kernel_rfl) ?_
              repeat (first | go_big_quiet_step ((fail)) | quiet_step ((fail)))
              refine wpQuiet_nil ?_
              intro _ hcw1
              obtain ⟨pq, hcw2⟩ := hcw1
              subst hcw2
              have hg3 : Grows wr (reg wr pq) := below_reg _ _
              obtain ⟨W3, eW3⟩ : ∃ W3, reg wr pq = W3 := ⟨_, rfl⟩
              rw [eW3] at hg3 ⊢
              obtain ⟨v5, W5, r5, g5, v7, W7, r7, g7, a8, n8, c8, W8, r8, g8, o8⟩ := HEND.out W3 (grows_trans _ _ _ HGG.out hg3) _ _ (fun W' hW => HS.out.1 W' (grows_trans _ _ _ hg3 hW)) (fun W' hW => HS.out.2 W' (grows_trans _ _ _ hg3 hW))
              have G := Lib.hid (And.intro hg3 (And.intro g5 (And.intro g7 (And.intro g8 o8))))
              have gb3 := grows_trans _ _ _ HGG.out hg3
              have F := fun W' (hW : Grows W3 W') => And.intro (box_grows H1.out.1 (grows_trans _ _ _ gb3 hW)) (And.intro (box_grows H1.out.2.1 (grows_trans _ _ _ gb3 hW)) (box_grows H1.out.2.2 (grows_trans _ _ _ gb3 hW)))
              have z0 := box_lt (F W3 (grows_refl _)).1
              have zz := box_lt (F W5 g5).2.1
              obtain ⟨a0, -⟩ := cell_in (F W3 (grows_refl _)).1 0 rfl
              obtain ⟨b0, -⟩ := cell_in (F W5 g5).2.1 0 rfl
              obtain ⟨b1, -⟩ := cell_in (F W5 g5).2.1 1 rfl
              obtain ⟨b2, -⟩ := cell_in (F W5 g5).2.1 2 rfl
              obtain ⟨d7, -⟩ := cell_in (F W7 g7).1 0 rfl
              obtain ⟨d71, -⟩ := cell_in (F W7 g7).1 1 rfl
              obtain ⟨d8, -⟩ := cell_in (F W8 g8).1 0 rfl
              obtain ⟨d81, -⟩ := cell_in (F W8 g8).1 1 rfl
              obtain ⟨c0, c0f⟩ := cell_in (F W8 g8).2.2 0 rfl
              obtain ⟨c1, c1f⟩ := cell_in (F W8 g8).2.2 1 rfl
              have c0f : W8.frozen? ⟨b + 1 + 1, 0, none⟩ = false := c0f
              have c1f : W8.frozen? ⟨b + 1 + 1, 1, none⟩ = false := c1f
              have z8 : b + 1 + 1 < W8.heap.size := box_lt (F W8 g8).2.2
              have HF := Lib.hid F
              clear F hg3 g5 g7 g8 o8 gb3 eW3
              go_wp2_with (at_builtin; first | refine wpList_append_run _ rfl _ _ 37 37 rfl _ _ rfl rfl (r5 _) ?_ | refine wpList_append_run _ rfl _ _ 37 37 rfl _ _ rfl rfl (r7 _) ?_)
              have mixed : Tryd.prog.follows .mixedOrders = true := by kernel_rfl
              go_region_law (refine step_append_run rfl _ _ 37 37 rfl _ _ (by simp [Act.eval, Act.put]) (by simp [Act.eval, Act.put]) (r8 _) ?_)
              all_goals (
                go_wp2
                obtain ⟨hg3, g5, g7, g8, o8⟩ := G.out
                obtain ⟨k1, k2, q0, q1⟩ := rtab_end M (grows_trans _ _ _ HG1.out (grows_trans _ _ _ HGG.out (grows_trans _ _ _ hg3 g8))) EB.out (b + 1 + 1) (by omega) (HF.out W8 g8).2.2 o8
                refine bodyPost_ret (v := .tuple #[dval (.slice a8 n8 c8) M, .int .i64 0]) (by simp [results, Tryd.results53, go_sem, q0, q1]) rfl ⟨_, by rw [HE.out.1], k1, ?_⟩
                rw [HE.out.2, ← HIT.out]
                exact row_base k2 (Nat.le_trans HB.out (by rw [← EB.out]; exact (grows_trans _ _ _ HG1.out (grows_trans _ _ _ HGG.out hg3)).size)))
            · have hs2 : ∀ W', Grows wr W' → RSrc W' (.slice (some ⟨g, 0, none⟩) 0 0) (l.drop cap) := fun W' hW => by
                rw [List.eq_nil_of_length_eq_zero (hlt2.trans (Nat.sub_self _))]
                exact rsrc_nil _ _ _ (fun h => by cases h)
              have HS := Lib.hid (And.intro hs1 hs2)
              clear hs1 hs2 hat hlt2
              go_wp2_with fail
              refine wp_region_reg (by kernel_rfl) (by kernel_rfl) ?_
              repeat (first | go_big_quiet_step ((fail)) | quiet_step ((fail)))
              refine wpQuiet_nil ?_
              intro _ hcw1
              obtain ⟨pq, hcw2⟩ := hcw1
              subst hcw2
              have hg3 : Grows wr (reg wr pq) := below_reg _ _
              obtain ⟨W3, eW3⟩ : ∃ W3, reg wr pq = W3 := ⟨_, rfl⟩
              rw [eW3] at hg3 ⊢
              obtain ⟨v5, W5, r5, g5, v7, W7, r7, g7, a8, n8, c8, W8, r8, g8, o8⟩ := HEND.out W3 (grows_trans _ _ _ HGG.out hg3) _ _ (fun W' hW => HS.out.1 W' (grows_trans _ _ _ hg3 hW)) (fun W' hW => HS.out.2 W' (grows_trans _ _ _ hg3 hW))
              have G := Lib.hid (And.intro hg3 (And.intro g5 (And.intro g7 (And.intro g8 o8))))
              have gb3 := grows_trans _ _ _ HGG.out hg3
              have F := fun W' (hW : Grows W3 W') => And.intro (box_grows H1.out.1 (grows_trans _ _ _ gb3 hW)) (And.intro (box_grows H1.out.2.1 (grows_trans _ _ _ gb3 hW)) (box_grows H1.out.2.2 (grows_trans _ _ _ gb3 hW)))
              have z0 := box_lt (F W3 (grows_refl _)).1
              have zz := box_lt (F W5 g5).2.1
              obtain ⟨a0, -⟩ := cell_in (F W3 (grows_refl _)).1 0 rfl
              obtain ⟨b0, -⟩ := cell_in (F W5 g5).2.1 0 rfl
              obtain ⟨b1, -⟩ := cell_in (F W5 g5).2.1 1 rfl
              obtain ⟨b2, -⟩ := cell_in (F W5 g5).2.1 2 rfl
              obtain ⟨d7, -⟩ := cell_in (F W7 g7).1 0 rfl
              obtain ⟨d71, -⟩ := cell_in (F W7 g7).1 1 rfl
              obtain ⟨d8, -⟩ := cell_in (F W8 g8).1 0 rfl
              obtain ⟨d81, -⟩ := cell_in (F W8 g8).1 1 rfl
              obtain ⟨c0, c0f⟩ := cell_in (F W8 g8).2.2 0 rfl
              obtain ⟨c1, c1f⟩ := cell_in (F W8 g8).2.2 1 rfl
              have c0f : W8.frozen? ⟨b + 1 + 1, 0, none⟩ = false := c0f
              have c1f : W8.frozen? ⟨b + 1 + 1, 1, none⟩ = false := c1f
              have z8 : b + 1 + 1 < W8.heap.size := box_lt (F W8 g8).2.2
              have HF := Lib.hid F
              clear F hg3 g5 g7 g8 o8 gb3 eW3
              go_wp2_with (at_builtin; first | refine wpList_append_run _ rfl _ _ 37 37 rfl _ _ rfl rfl (r5 _) ?_ | refine wpList_append_run _ rfl _ _ 37 37 rfl _ _ rfl rfl (r7 _) ?_)
              have mixed : Tryd.prog.follows .mixedOrders = true := by kernel_rfl
              go_region_law (refine step_append_run rfl _ _ 37 37 rfl _ _ (by simp [Act.eval, Act.put]) (by simp [Act.eval, Act.put]) (r8 _) ?_)
              all_goals (
                go_wp2
                obtain ⟨hg3, g5, g7, g8, o8⟩ := G.out
                obtain ⟨k1, k2, q0, q1⟩ := rtab_end M (grows_trans _ _ _ HG1.out (grows_trans _ _ _ HGG.out (grows_trans _ _ _ hg3 g8))) EB.out (b + 1 + 1) (by omega) (HF.out W8 g8).2.2 o8
                refine bodyPost_ret (v := .tuple #[dval (.slice a8 n8 c8) M, .int .i64 0]) (by simp [results, Tryd.results53, go_sem, q0, q1]) rfl ⟨_, by rw [HE.out.1], k1, ?_⟩
                rw [HE.out.2, ← HIT.out]
                exact row_base k2 (Nat.le_trans HB.out (by rw [← EB.out]; exact (grows_trans _ _ _ HG1.out (grows_trans _ _ _ HGG.out hg3)).size)))
end Go.Proofs.YtgjieoljfcfacaaDoor
/- The walk of TablePops. -/
namespace Go.Proofs.YtgjieoljfcfacaaDoor
open Go.RowKit Go.Sort
set_option maxHeartbeats 4000000
set_option maxRecDepth 100000
/-- A call that changes a table made behind w leaves what was there. -/
theorem TabTo.behind {T : TypeId} {w Wx Wy : World} {base tb mb most : Nat} {kv r : Value} {m m' : List (KW × Value)} {e : Ending} (h : TabAt T Wx base tb kv mb m most) (hb : w.heap.size ≤ base) (hg : Grows w Wx) (ht : TabTo T Wx base tb kv mb m' most r e Wy) : Grows w Wy := by
  obtain ⟨-, kv', k1, k2, k3⟩ := ht
  refine Below.trans hg (k2.toBelow hg.size (fun j hj hs => ?_))
  rcases hs with hs | hs | hs
  · have := h.bt; omega
  · have := h.bm; omega
  · have := (h.own.lt _ hs).1; omega
/-- Another slice of keys stays. -/
theorem TabTo.other {T : TypeId} {Wx Wy : World} {base tb mb most b : Nat} {kv r wv : Value} {m m' : List (KW × Value)} {l : List KW} {e : Ending} (hT : T ≠ 29) (h : TabAt T Wx base tb kv mb m most) (ho : KOwn Wx b wv l) (hs : ∀ j, wv.ownBlock = some j → kv.ownBlock ≠ some j) (ht : TabTo T Wx base tb kv mb m' most r e Wy) :
    KOwn Wy b wv l ∧ ∃ kv', TabAt T Wy base tb kv' mb m' most ∧ e = .returned r ∧ ∀ j, wv.ownBlock = some j → kv'.ownBlock ≠ some j := by
  obtain ⟨rfl, kv', k1, k2, k3⟩ := ht
  refine ⟨k2.own ho (fun j hj hS => ?_), kv', k1, rfl, fun j hj hk => ?_⟩
  · rcases hS with h1 | h1 | h1
    · exact own_ne hT ho h.ob (h1 ▸ hj)
    · exact own_mne ho h.map (h1 ▸ hj)
    · exact hs j hj h1
  · rcases k3 j hk with h1 | h1
    · exact hs j hj h1
    · exact Nat.lt_irrefl _ (Nat.lt_of_lt_of_le (ho.lt j hj).2 h1)
section
attribute [-go_sem] run_eql_struct run_neq_struct
end
end Go.Proofs.YtgjieoljfcfacaaDoor
/- A table, and the document's in a box: side by side. -/
namespace Go.Proofs.YtgjieoljfcfacaaDoor
open Go.RowKit Go.Sort
set_option maxHeartbeats 1000000
set_option maxRecDepth 100000
abbrev TDT : TypeId := 39
/-- A block of cells of another type is none of a table's. -/
theorem TabAt.notS {T T' : TypeId} {w : World} {base tb mb most p : Nat} {kv : Value} {m : List (KW × Value)} {cs : Array Value} {z : Nat × Nat} (h : TabAt T w base tb kv mb m most) (hp : w.heap[p]? = some (.cells cs T' z)) (h1 : T' ≠ T) (h2 : T' ≠ 29) : ¬ TabS tb kv mb p := by
  rintro (hs | hs | hs)
  · rw [hs, h.ob] at hp
    injection hp with hp
    injection hp with _ hp
    exact h1 hp.symm
  · subst hs; exact map_ne_cells h.map hp
  · obtain ⟨cur, hg⟩ := h.own.ty hs
    rw [hp] at hg
    injection hg with hg
    injection hg with _ hg
    exact h2 hg
theorem putR_tv (l : List DR) (M : Nat) (k : KW) (x : Int) : (putR l M k x).map tv = if putE (l.map tv) M k = 0 then insT (l.map tv) k (.int .i64 x) else l.map tv := by
  unfold putR
  split
  · rw [insT_tv]
  · rfl
theorem putR_length (l : List DR) (M : Nat) (k : KW) (x : Int) : (putR l M k x).length ≤ l.length + 1 := by
  unfold putR
  split
  · rw [insT_length]; exact Nat.le_refl _
  · omega
/-- Both have the rows l, the document's in the box p. -/
structure Duo (w : World) (B tb mb : Nat) (kv : Value) (p : Nat) (vw : Value) (l : List DR) (M : Nat) : Prop where
  tab : TabAt TTI w B tb kv mb (l.map tv) M
  own : ROwn w B vw l
  box : w.heap[p]? = some (.cells #[vw, .int .i64 (M : Int)] TDT (0, 0))
variable {w w' : World} {B tb mb p M : Nat} {kv vw : Value} {l : List DR}
theorem Duo.grows (h : Duo w B tb mb kv p vw l M) (hg : Grows w w') : Duo w' B tb mb kv p vw l M := ⟨h.tab.grows hg, own_grows h.own hg, box_grows h.box hg⟩
theorem Duo.pS (h : Duo w B tb mb kv p vw l M) : ¬ TabS tb kv mb p := h.tab.notS h.box (by decide) (by decide)
/-- The table is changed: the document's rows stay. -/
theorem Duo.to {m' : List (KW × Value)} {r : Value} {e : Ending} (h : Duo w B tb mb kv p vw l M) (ht : TabTo TTI w B tb kv mb m' M r e w') : e = .returned r ∧ ∃ kv', TabAt TTI w' B tb kv' mb m' M ∧ ROwn w' B vw l ∧ w'.heap[p]? = some (.cells #[vw, .int .i64 (M : Int)] TDT (0, 0)) := by
  obtain ⟨rfl, kv', k1, k2, k3⟩ := ht
  exact ⟨rfl, kv', k1, k2.own h.own (fun j hj hs => ROwn.tab h.own h.tab (by decide) j hj hs), box_chg h.box k2 h.pS⟩
/-- The box is set to the document's rows. -/
theorem Duo.next {v' : Value} {l' : List DR} (ht : TabAt TTI w B tb kv mb (l'.map tv) M) (ho : ROwn w B v' l') (hb : w.heap[p]? = some (.cells #[vw, .int .i64 (M : Int)] TDT (0, 0))) :
    Duo ((w.setCell ⟨p, 0, none⟩ v').setCell ⟨p, 1, none⟩ (.int .i64 (M : Int))) B tb mb kv p v' l' M ∧ Chg (fun j => j = p) w ((w.setCell ⟨p, 0, none⟩ v').setCell ⟨p, 1, none⟩ (.int .i64 (M : Int))) := by
  have hc : Chg (fun i => i = p) w ((w.setCell ⟨p, 0, none⟩ v').setCell ⟨p, 1, none⟩ (.int .i64 (M : Int))) := Chg.setCell (S := fun i => i = p) (Chg.setCell (S := fun i => i = p) (Chg.refl _ _) _ (.inr rfl)) _ (.inr rfl)
  have hn := ht.notS hb (by decide) (by decide)
  refine ⟨⟨ht.chg hc (fun e => hn (.inl e.symm)) (fun e => hn (.inr (.inl e.symm))) (fun j hj e => hn (.inr (.inr (e ▸ hj)))), hc.own ho (fun j hj e => ?_), box_setj (j := 1) (box_setj (j := 0) hb)⟩, hc⟩
  obtain ⟨cur, hcur⟩ := ROwn.ty ho hj
  rw [e, hb] at hcur
  injection hcur with hcur
  injection hcur with _ hcur
  exact absurd hcur (by decide)
theorem grows_chg {W : World} (hg : Grows W w) {S : Nat → Prop} (hc : Chg S w w') (hS : ∀ j, S j → W.heap.size ≤ j) : Grows W w' := Below.trans hg (hc.toBelow hg.size (fun j hj hs => by have := hS j hs; omega))
/-- A region of which only the common end is asked: where the way on is a loop's, 'go_region_law' wants this ahead of it. -/
theorem wp_normal {P : Program} {c : Code} {Q : Exit → Act → World → Prop} {a : Act} {w : World} (h : c.wp P (fun e a' w' => match e with | .normal => Q .normal a' w' | _ => False) a w) : c.wp P Q a w :=
  wp_mono h fun e a' w' hq => by cases e <;> first | exact hq | exact hq.elim
end Go.Proofs.YtgjieoljfcfacaaDoor
/- The document's Expire: the rows that stay. -/
namespace Go.Proofs.YtgjieoljfcfacaaDoor
open Go.RowKit Go.Sort
set_option maxHeartbeats 4000000
set_option maxRecDepth 100000
/-- Does the row stay? -/
def keepE (e : Int) (p : DR) : Bool := decide (e ≤ p.2)
theorem take_filterE {e : Int} {l : List DR} {i : Nat} {y : DR} (hi : i < l.length) (hy : l[i] = y) : (l.take (i + 1)).filter (keepE e) = (l.take i).filter (keepE e) ++ (if keepE e y then [y] else []) := by
  rw [List.take_succ_eq_append_getElem hi, hy, List.filter_append, List.filter_cons, List.filter_nil]
theorem rexpire_any {v : Value} {l : List DR} {w : World} {base M : Nat} (e : Int) (h : ROwn w base v l) (hm : l.length ≤ 10000) (hb : base ≤ w.heap.size) :
    Calls Tryd.prog 55 #[dval v M, .int .i64 e] w (RTab w base (l.filter (keepE e)) M (fun t => t)) := by
  obtain ⟨n, en⟩ : ∃ n, l.length = n := ⟨_, rfl⟩
  obtain ⟨b, eb⟩ : ∃ b, w.heap.size = b := ⟨_, rfl⟩
  obtain ⟨a, cap, rfl⟩ := ROwn.len h en
  have hq2 := two_new w (.cells #[.slice a n cap, .int .i64 (M : Int)] TDT) (.cells #[.slice none 0 0, .int .i64 0] TDT)
  have hgb : Grows w ((w.alloc (.cells #[.slice a n cap, .int .i64 (M : Int)] TDT)).alloc (.cells #[.slice none 0 0, .int .i64 0] TDT)) := bl_alloc (bl_alloc (Below.refl _ _) _) _
  obtain ⟨W, eW⟩ : ∃ W, (w.alloc (.cells #[.slice a n cap, .int .i64 (M : Int)] TDT)).alloc (.cells #[.slice none 0 0, .int .i64 0] TDT) = W := ⟨_, rfl⟩
  rw [eW, eb] at hq2
  rw [eW] at hgb
  have gW : Grows W (W.alloc (.cells #[] 131)) := bl_alloc (Below.refl _ _) _
  have o4 : ROwn (W.alloc (.cells #[] 131)) W.heap.size (.slice (some ⟨W.heap.size, 0, none⟩) 0 0) [] := World.ownsRow_lit W #[] 0 (Nat.le_refl _) (by decide) rfl
  have HO4 := Lib.hid o4
  have HGW := Lib.hid gW
  have HH := Lib.hid (own_grows h hgb)
  have HG := Lib.hid hgb
  have HB := Lib.hid hb
  have HM := Lib.hid hm
  have EN := Lib.hid en
  have EB := Lib.hid eb
  have H0 := Lib.hid hq2
  obtain ⟨a0, -⟩ := cell_in (box_grows hq2.1 gW) 0 rfl
  obtain ⟨a1, -⟩ := cell_in (box_grows hq2.1 gW) 1 rfl
  have z0 := box_lt (box_grows hq2.1 gW)
  clear h hm hb hq2 hgb en o4 gW
  go_enter Tryd.func55, Tryd.ntmps55
  go_wp2_with fail
  go_loopw [5, 6] (fun ov iv wr => ∃ i : Nat, iv = .int .i64 (i : Int) ∧ i ≤ n ∧ ROwn wr W.heap.size ov ((l.take i).filter (keepE e)) ∧ Grows W wr) (fun _ iv _ => n - (intOf iv).toNat)
  case atStart => exact ⟨0, rfl, Nat.zero_le _, HO4.out, HGW.out⟩
  case round =>
    obtain ⟨i, rfl, hi, ho, hg⟩ := hrel
    clear a0 a1 z0
    obtain ⟨a0, -⟩ := cell_in (box_grows H0.out.1 hg) 0 rfl
    obtain ⟨a1, -⟩ := cell_in (box_grows H0.out.1 hg) 1 rfl
    have z0 := box_lt (box_grows H0.out.1 hg)
    have hha := own_grows HH.out hg
    have HO := Lib.hid ho
    have HGG := Lib.hid hg
    by_cases hlt : i < n
    · have hn6 : i ≤ 1000000 := Nat.le_trans (Nat.le_of_lt hlt) (by rw [← EN.out]; exact Nat.le_trans HM.out (by decide))
      have HNF := Lib.hid (nat_facts i hn6)
      have HWS := Lib.hid (wrap_succ hn6)
      have HLT := Lib.hid hlt
      have hnl : i < l.length := by rw [EN.out]; exact hlt
      obtain ⟨g, c', he, hcap, hgl, hat⟩ := ROwn.form hha EN.out (Nat.lt_of_le_of_lt (Nat.zero_le _) hlt)
      simp only [Value.slice.injEq, true_and] at he
      obtain ⟨rfl, rfl⟩ := he
      obtain ⟨p0, p1, p2, p3⟩ := rat_cells hat i hnl
      rw [Nat.zero_add] at p0 p1 p2 p3
      obtain ⟨y, ey⟩ : ∃ y, l[i] = y := ⟨_, rfl⟩
      rw [ey] at p0 p1 p2 p3
      have htf := take_filterE (e := e) hnl ey
      have HTF := Lib.hid htf
      have hki : (i : Int) < (n : Int) := Int.ofNat_lt.2 hlt
      have hol : ((l.take i).filter (keepE e)).length ≤ 10000 := Nat.le_trans (List.length_filter_le _ _) (Nat.le_trans (List.length_take_le' _ _) HM.out)
      have hgx : Grows wr (wr.alloc (.cells #[.int .i64 y.1.t, .int .i64 y.1.f, .int .u32 y.1.s, .int .i64 y.2] 131)) := bl_alloc (Below.refl _ _) _
      have s6 : RSrc (wr.alloc (.cells #[.int .i64 y.1.t, .int .i64 y.1.f, .int .u32 y.1.s, .int .i64 y.2] 131)) (.slice (some ⟨wr.heap.size, 0, none⟩) 1 1) [y] :=
        .inr ⟨_, 1, rfl, fun j u hj => by
          rw [addr_add, Nat.zero_add]
          exact (cell_in (heap_alloc_new wr _) j (by simpa [rvs, rc] using hj)).1⟩
      obtain ⟨v7, W7, r7, o7, b7⟩ := rapp_run (own_grows ho hgx) s6 (by simp only [List.length_singleton]; omega) (Nat.le_trans hg.size hgx.size)
      have g7 := grows_of_grownBy (grows_trans _ _ _ hg hgx) b7 (fun j hj => ((own_grows ho hgx).lt j hj).1)
      have H7 := Lib.hid (And.intro o7 g7)
      clear htf ey hat hha hnl hcap hlt hn6 hi ho hg hgx s6 o7 b7 g7 hol
      obtain ⟨j1, j2, j3, j4, j6⟩ := HNF.out
      cases hk : keepE e y with
      | true =>
        have hk2 := hk
        simp only [keepE, decide_eq_true_eq] at hk2
        have hk3 : decide (e ≤ y.2) = true := decide_eq_true hk2
        go_wp2_with (at_builtin; refine wpList_append_run _ rfl _ _ 37 37 rfl _ _ rfl rfl (r7 _) ?_)
        go_roundw
        case rel => exact ⟨i + 1, by rw [HWS.out]; rfl, HLT.out, by rw [HTF.out, hk]; exact H7.out.1, H7.out.2⟩
        case measure => rw [HWS.out]; exact meas_succ HLT.out
      | false =>
        have hk2 := hk
        simp only [keepE, decide_eq_false_iff_not] at hk2
        have hk3 : decide (e ≤ y.2) = false := decide_eq_false hk2
        go_wp2_with fail
        go_roundw
        case rel => exact ⟨i + 1, by rw [HWS.out]; rfl, HLT.out, by rw [HTF.out, hk]; simpa using HO.out, HGG.out⟩
        case measure => rw [HWS.out]; exact meas_succ HLT.out
    · obtain rfl : i = n := Nat.le_antisymm hi (Nat.le_of_not_lt hlt)
      obtain ⟨a8, c8, rfl⟩ := ROwn.len ho rfl
      obtain ⟨n8, en8⟩ : ∃ n8, ((l.take i).filter (keepE e)).length = n8 := ⟨_, rfl⟩
      have h2 := box_grows H0.out.2 hg
      have z1 := box_lt h2
      obtain ⟨c0, c0f⟩ := cell_in h2 0 rfl
      obtain ⟨c1, c1f⟩ := cell_in h2 1 rfl
      have hlx : l.take i = l := List.take_of_length_le (by rw [EN.out]; exact Nat.le_refl _)
      have HLX := Lib.hid hlx
      rw [en8] at HO ⊢
      clear hha hlt hi ho hg h2 hlx en8
      go_wp2_with fail
      obtain ⟨k1, k2, q0, q1⟩ := rtab_end M (grows_trans _ _ _ HG.out HGG.out) EB.out (b + 1) (Nat.le_succ _) (box_grows H0.out.2 HGG.out) HO.out
      refine bodyPost_ret (v := dval (.slice a8 n8 c8) M) (by simp [results, Tryd.results55, go_sem, q0, q1]) rfl ⟨_, rfl, k1, ?_⟩
      have k3 := row_base k2 (Nat.le_trans HB.out HG.out.size)
      rw [HLX.out] at k3
      exact k3
end Go.Proofs.YtgjieoljfcfacaaDoor
