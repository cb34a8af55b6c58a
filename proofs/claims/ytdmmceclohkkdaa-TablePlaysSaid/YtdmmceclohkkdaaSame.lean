/- The law's 'same': a table and the document's side by side. -/
import Derived.Test.YtdmmceclohkkdaaTabDrop
import Derived.Test.YtdmmceclohkkdaaTabEI
import Derived.Test.YtdmmceclohkkdaaDocPut2
import Derived.Test.YtdmmceclohkkdaaQuietR
namespace Go.Proofs.Ytdmmceclohkkdaa
open Go.RowKit Go.Sort
set_option maxHeartbeats 4000000
set_option maxRecDepth 100000
theorem ROwn.keep {n : Nat} {A B : World} {b2 : Nat} {v : Value} {l : List DR} (h : ROwn A b2 v l) (hr : Rec n A B) : ROwn B b2 v l := hr.own h
theorem map_at {l : List DR} {i : Nat} {x : KW × Value} (h : (l.map tv)[i]? = some x) : ∃ hi : i < l.length, x = ((l[i]).1, .int .i64 (l[i]).2) := by
  rw [List.getElem?_map, Option.map_eq_some_iff] at h
  obtain ⟨p, hp, rfl⟩ := h
  obtain ⟨hi, rfl⟩ := List.getElem?_eq_some_iff.1 hp
  exact ⟨hi, rfl⟩
/-- The result's box lies as it must, at the end of a function that ranged over another. -/
theorem mark_end {w W Wf : World} {b j D n : Nat} {T : TypeId} {r0 r : Value} (h1 : W.heap[j]? = some (.cells #[r0] T (0, 0))) (hdf : W.heap[D]? = some (.deferred (some []))) (h6 : Below b w W) (hbj : b ≤ j) (hD : n ≤ D) (hn : b ≤ n) (hw : b ≤ w.heap.size) (hbW : b ≤ W.heap.size) (hf : Grows (W.setCell ⟨j, 0, none⟩ r) Wf) :
    Wf.heap[D]? = some (.deferred (some [])) ∧ (Wf.putObj D (.deferred none)).cell? ⟨j, 0, none⟩ = some r ∧ Below b w (Wf.putObj D (.deferred none)) := by
  have hD5 : (W.setCell ⟨j, 0, none⟩ r).heap[D]? = some (.deferred (some [])) := (KeepsOthers.setCell W ⟨j, 0, none⟩ r).same D _ hdf rfl
  have hD6 := box_grows hD5 hf
  have hc5 := box_cell_grows (World.cell?_setCell_same' W ⟨j, 0, none⟩ r (by rw [(cell_in h1 0 rfl).1]; rfl)) hf
  exact ⟨hD6, cell_kept hc5 (grownBy_putObj' _ D (.deferred none)) (fun r e => by cases e; exact ⟨_, hD6, rfl⟩), (Rec.put _ hD hD6 rfl).below ((h6.setCell hbj r).trans ((hf : Below _ _ _).mono (by simpa using hbW))) hw hn⟩
section
attribute [local go_sem] Oper.semAt_some
attribute [-go_sem] run_eql_struct run_neq_struct
theorem same_any {w : World} {base tb mb b2 M : Nat} {kv v : Value} {l : List DR} (h : TabAt TTI w base tb kv mb (l.map tv) M) (ho : ROwn w b2 v l) :
    Calls Try.prog 23 #[.pointer (some ⟨tb, 0, none⟩), dval v M] w (RetV w (.bool true)) := by
  obtain ⟨n, en⟩ : ∃ n, l.length = n := ⟨_, rfl⟩
  obtain ⟨a, cap, rfl⟩ := ROwn.len ho en
  have hmn : (l.map tv).length = n := by rw [List.length_map, en]
  have hnM : n ≤ M := by rw [← hmn]; exact h.few
  have hM6 : M ≤ 65536 := h.most
  obtain ⟨b, eb⟩ : ∃ b, w.heap.size = b := ⟨_, rfl⟩
  have hq2 := two_new w (.cells #[.slice a n cap, .int .i64 (M : Int)] 37) (.cells #[.bool false] 4)
  have hgb : Grows w ((w.alloc (.cells #[.slice a n cap, .int .i64 (M : Int)] 37)).alloc (.cells #[.bool false] 4)) := bl_alloc (bl_alloc (Below.refl _ _) _) _
  obtain ⟨W, eW⟩ : ∃ W, (w.alloc (.cells #[.slice a n cap, .int .i64 (M : Int)] 37)).alloc (.cells #[.bool false] 4) = W := ⟨_, rfl⟩
  rw [eW, eb] at hq2
  rw [eW] at hgb
  have HLEN := Lib.hid (fun W' (hg : Grows w W') => by have := tlenI (h.grows hg); rwa [hmn] at this)
  have HROOM := Lib.hid (fun W' (hg : Grows w W') => by have := troomI (h.grows hg); rwa [hmn] at this)
  have HALL := Lib.hid (fun W => tall_any (.pointer (some ⟨tb, 0, none⟩)) (.inr ⟨_, rfl⟩) W)
  have HT := Lib.hid h
  have HO := Lib.hid ho
  have HG := Lib.hid hgb
  have EB := Lib.hid eb
  have EN := Lib.hid en
  have HN6 := Lib.hid (Nat.le_trans hnM hM6)
  obtain ⟨a0, -⟩ := cell_in hq2.1 0 rfl
  obtain ⟨a1, -⟩ := cell_in hq2.1 1 rfl
  have z0 := box_lt hq2.1
  have H0 := Lib.hid hq2
  have k3 : wrap64 ((M : Int) - (n : Int)) = (M : Int) - (n : Int) := by unfold wrap64; omega
  clear h ho hgb hq2 hnM hM6 hmn
  refine calls_of_wp_marks Try.func23 rfl ?_
  simp only [Try.ntmps23, List.size_toArray, List.length_cons, List.length_nil, Nat.reduceAdd, Nat.reduceSub, Array.replicate_succ, Array.replicate_zero, List.push_toArray, List.append_toArray, List.nil_append, List.cons_append]
  go_wp2_with fail
  refine wp_region_reg (by kernel_rfl) (by kernel_rfl) ?_
  repeat (first | go_big_quiet_step ((first | (go_at_call 36; refine class_same (HLEN.out _ (grows_trans _ _ _ HG.out (below_reg _ _))) ⟨_, rfl⟩) | (go_at_call 37; exact class_reg (HROOM.out _ (grows_trans _ _ _ HG.out (below_reg _ _)))))) | quiet_step ((first | (go_at_call 36; refine class_same (HLEN.out _ (grows_trans _ _ _ HG.out (below_reg _ _))) ⟨_, rfl⟩) | (go_at_call 37; exact class_reg (HROOM.out _ (grows_trans _ _ _ HG.out (below_reg _ _)))))))
  refine wpQuiet_nil ?_
  intro _ hcw1
  obtain ⟨pq, hcw2⟩ := hcw1
  subst hcw2
  obtain ⟨W1, eW1⟩ : ∃ W1, reg W pq = W1 := ⟨_, rfl⟩
  have hg1 : Grows W W1 := by rw [← eW1]; exact below_reg _ _
  rw [eW1]
  have HG1 := Lib.hid hg1
  have qe := fun (W : World) f cs => run_eql_func_nil (P := Try.prog) W 42 f cs Try.underlying42
  clear hg1 eW1 eW a0 a1 z0 k3
  go_wp2_with fail
  refine (HALL.out _).mono ?_
  rintro e w5 ⟨rfl, hg5, hc5⟩
  have HG5 := Lib.hid (And.intro hg5 hc5)
  clear hg5 hc5
  go_wp2_with fail
  obtain ⟨hg5, hc5⟩ := HG5.out
  obtain ⟨q, eq⟩ : ∃ q, w5.heap.size = q := ⟨_, rfl⟩
  obtain ⟨c, ec⟩ : ∃ c, W1.heap.size = c := ⟨_, rfl⟩
  rw [ec] at hc5
  have hg6 : Grows w5 (w5.alloc (.cells #[.int .i64 0] 3)) := bl_alloc (Below.refl _ _) _
  have hqn := heap_alloc_new w5 (.cells #[.int .i64 0] 3)
  rw [eq] at hqn
  have hz6 : (w5.alloc (.cells #[.int .i64 0] 3)).heap.size = q + 1 := by simp [eq]
  obtain ⟨w6, e6⟩ : ∃ w6, w5.alloc (.cells #[.int .i64 0] 3) = w6 := ⟨_, rfl⟩
  rw [e6] at hg6 hqn hz6
  have g06 : Grows w w6 := grows_trans _ _ _ HG.out (grows_trans _ _ _ HG1.out (grows_trans _ _ _ hg5 hg6))
  have gW6 : Grows W w6 := grows_trans _ _ _ HG1.out (grows_trans _ _ _ hg5 hg6)
  have G6 := Lib.hid g06
  have hb1q : b + 1 < q := by
    have h1 := box_lt (box_grows H0.out.2 (grows_trans _ _ _ HG1.out hg5))
    rwa [eq] at h1
  have I0 := Lib.hid (And.intro (HT.out.grows g06) (And.intro (own_grows HO.out g06) (And.intro (box_grows H0.out.1 gW6) (And.intro (box_grows H0.out.2 gW6) (And.intro hqn (And.intro (box_cell_grows hc5 hg6) g06))))))
  have HB1Q := Lib.hid hb1q
  have HZ6 := Lib.hid hz6
  have hqc : c ≠ q := fun e => by
    have h1 := box_cell_grows hc5 hg6
    rw [e, (cell_in hqn 0 rfl).1] at h1
    cases h1
  have HQC := Lib.hid hqc
  have HQS := Lib.hid (show ¬ TabS tb kv mb q by
    have h1 := HT.out.grows (grows_trans _ _ _ HG.out (grows_trans _ _ _ HG1.out hg5))
    rintro (hs | hs | hs)
    · have := h1.lt; omega
    · have := h1.mlt; omega
    · have := (h1.own.lt _ hs).2; omega)
  have HQR := Lib.hid (show ∀ j, (Value.slice a n cap).ownBlock = some j → j ≠ q by
    intro j hj e
    have h1 := own_grows HO.out (grows_trans _ _ _ HG.out (grows_trans _ _ _ HG1.out hg5))
    have := (World.ownsRow.lt h1 j hj).2
    omega)
  clear hg5 hc5 hg6 hqn hz6 g06 gW6 hb1q hqc
  rw [eq, ec, e6]
  clear eq ec e6 HG5
  refine wp_range2 (α := KW × Value) rfl (enters_of Try.func67 (by kernel_rfl) rfl) rowV (fun _ => rfl) (fun j => j = q) ?hS
    (fun s W => TabAt TTI W base tb kv mb (l.map tv) M ∧ ROwn W b2 (.slice a n cap) l ∧ W.heap[b]? = some (.cells #[.slice a n cap, .int .i64 (M : Int)] 37 (0, 0)) ∧ W.heap[b + 1]? = some (.cells #[.bool false] 4 (0, 0)) ∧
      W.heap[q]? = some (.cells #[.int .i64 (s.length : Int)] 3 (0, 0)) ∧ W.cell? ⟨c, 0, none⟩ = some (.pointer (some ⟨tb, 0, none⟩)) ∧ Below b w W)
    (RowG (l.map tv)) (fun _ _ _ => False) (fun xs => xs.length = (l.map tv).length) ?hI ?hIx ?h0 ?it ?rd ?dn ?st
  case hS => rintro j rfl; rw [HZ6.out]; exact Nat.lt_succ_self _
  case hI =>
    rintro s X Y ⟨h1, h2, h3, h4, h5, h6, h7⟩ hr
    exact ⟨h1.keep hr (Nat.lt_of_lt_of_le HT.out.mlt G6.out.size), h2.keep hr, hr.at h3, hr.at h4, hr.at h5, hr.cell1 h6, hr.below h7 (by rw [EB.out]; exact Nat.le_refl _) (by rw [← EB.out]; exact G6.out.size)⟩
  case hIx => exact fun _ _ _ _ h _ => h.elim
  case h0 =>
    obtain ⟨h1, h2, h3, h4, h5, h6, h7⟩ := I0.out
    exact ⟨h1, h2, h3, h4, h5, h6, by rw [← EB.out]; exact h7⟩
  case it =>
    refine tall_tells (base := base) (kv := kv) (mb := mb) (most := M) w6 _ (fun A h => h.1) (fun s A h => ⟨h.2.2.2.2.2.1, kv, l.map tv, h.1, fun i p _ hp => getK_mem h.1.rises.nodup (List.mem_of_getElem? hp)⟩)
  case st => exact fun _ _ _ _ _ h => h.elim
  case rd =>
    intro l0 s x W' hl0 hlt hI hG
    obtain ⟨i, ei⟩ : ∃ i, s.length = i := ⟨_, rfl⟩
    have hx : (l.map tv)[s.length]? = some x := hG
    rw [ei] at hx
    obtain ⟨hil, rfl⟩ := map_at hx
    obtain ⟨y, ey⟩ : ∃ y, l[i] = y := ⟨_, rfl⟩
    rw [ey]
    have HI := Lib.hid hI
    have EI := Lib.hid ei
    have EY := Lib.hid (And.intro hil ey)
    clear hI hG hx ei ey
    simp only [rowV, KW.val]
    gi_wp2_with fail
    refine ⟨bl_alloc (Below.refl _ _) _, ?_⟩
    intro W2 hr2
    have hgw : Grows W' (W'.alloc (.cells #[.int .i64 y.1.t, .int .i64 y.1.f, .int .u32 y.1.s] 29)) := bl_alloc (Below.refl _ _) _
    obtain ⟨h1, h2, h3, h4, h5, h6, h7⟩ := HI.out
    rw [EI.out] at h5
    have f1 := (h1.grows hgw).keep hr2 (Nat.lt_of_lt_of_le HT.out.mlt G6.out.size)
    have f2 := ROwn.keep (own_grows h2 hgw) hr2
    have f3 := hr2.at (box_grows h3 hgw)
    have f4 := hr2.at (box_grows h4 hgw)
    have f5 := hr2.at (box_grows h5 hgw)
    have f6 := hr2.cell1 (box_cell_grows h6 hgw)
    have f7 := hr2.below (h7.trans ((hgw : Below _ _ _).mono (by have := box_lt h3; omega))) (by rw [EB.out]; exact Nat.le_refl _) (by rw [← EB.out]; exact G6.out.size)
    have f8 := hr2.at (heap_alloc_new W' (.cells #[.int .i64 y.1.t, .int .i64 y.1.f, .int .u32 y.1.s] 29))
    have hin : i < n := by rw [← EN.out]; exact hil
    obtain ⟨g, c', he, hcap, hgl, hat⟩ := ROwn.form f2 EN.out (Nat.lt_of_le_of_lt (Nat.zero_le _) hin)
    simp only [Value.slice.injEq, true_and] at he
    obtain ⟨rfl, rfl⟩ := he
    obtain ⟨p0, p1, p2, p3⟩ := rat_cells hat i hil
    rw [Nat.zero_add] at p0 p1 p2 p3
    rw [EY.out.2] at p0 p1 p2 p3
    obtain ⟨t0, -⟩ := cell_in f8 0 rfl
    obtain ⟨t1, -⟩ := cell_in f8 1 rfl
    obtain ⟨t2, -⟩ := cell_in f8 2 rfl
    obtain ⟨b0, -⟩ := cell_in f3 0 rfl
    obtain ⟨q0, q0f⟩ := cell_in f5 0 rfl
    have z1 := box_lt f3
    have z3 := box_lt f5
    have z4 : W'.heap.size < W2.heap.size := box_lt f8
    have hn6 : i ≤ 1000000 := Nat.le_trans (Nat.le_of_lt hin) (Nat.le_trans HN6.out (by decide))
    have HNF := Lib.hid (nat_facts i hn6)
    have HWS := Lib.hid (wrap_succ hn6)
    have hki : (i : Int) < (n : Int) := Int.ofNat_lt.2 hin
    have hic2 : (n ≤ i) = False := eq_false (Nat.not_le_of_lt hin)
    have hq := fun W => key_neq y.1 y.1 W
    rw [decide_eq_true rfl] at hq
    have F := Lib.hid (And.intro f1 (And.intro f2 (And.intro f3 (And.intro f4 (And.intro f5 (And.intro f6 f7))))))
    obtain ⟨r, er⟩ : ∃ r, W'.heap.size = r := ⟨_, rfl⟩
    rw [er] at t0 t1 t2 z4 ⊢
    clear hgw h1 h2 h3 h4 h5 h6 h7 f1 f2 f3 f4 f5 f6 f7 f8 hat hr2 hn6 hcap hin er
    obtain ⟨j1, j2, j3, j4, j6⟩ := HNF.out
    gi_wp2_with fail
    refine wpIn_region_reg_round _ (by kernel_rfl) (by kernel_rfl) (by kernel_rfl) ?_
    repeat (refine wpQuietIn_step (fun _ _ _ _ => trivial) (fun K hK => ?_); go_simp; first | (refine hK _ ?_; clear hK K) | (apply Exists.intro; refine ⟨fun _ => ?_, hK _ ?_⟩; ((fail)); clear hK K))
    refine wpQuietIn_nil ?_
    intro _ hcw1
    obtain ⟨pq, hcw2⟩ := hcw1
    subst hcw2
    have hg3 : Grows W2 (reg W2 pq) := below_reg _ _
    obtain ⟨W3, e3⟩ : ∃ W3, reg W2 pq = W3 := ⟨_, rfl⟩
    rw [e3] at hg3 ⊢
    clear e3 b0 q0 q0f p0 p1 p2 p3 t0 t1 t2 z1 z3 z4 hki hic2
    obtain ⟨f1, f2, f3, f4, f5, f6, f7⟩ := F.out
    have f7 := f7.trans ((hg3 : Below _ _ _).mono (Nat.le_of_lt (box_lt f3)))
    have f1 := f1.grows hg3
    have f2 := own_grows f2 hg3
    have f3 := box_grows f3 hg3
    have f4 := box_grows f4 hg3
    have f5 := box_grows f5 hg3
    have f6 := box_cell_grows f6 hg3
    obtain ⟨q0, q0f⟩ := cell_in f5 0 rfl
    have z3 := box_lt f5
    have hc3 : Chg (fun j => j = q) W2 W3 := Chg.ofGrows hg3
    have F3 := Lib.hid (And.intro hc3 (And.intro f1 (And.intro f2 (And.intro f3 (And.intro f4 (And.intro f5 (And.intro f6 f7)))))))
    have hws := HWS.out
    clear hg3 f1 f2 f3 f4 f5 f6 f7 hc3 HWS
    gi_wp2_with fail
    obtain ⟨hc3, f1, f2, f3, f4, f5, f6, f7⟩ := F3.out
    have c4 : Chg (fun j => j = q) W3 (W3.setCell ⟨q, 0, none⟩ (.int .i64 ((i : Int) + 1))) := Chg.setCell (Chg.refl (fun j => j = q) W3) (p := ⟨q, 0, none⟩) (.int .i64 ((i : Int) + 1)) (.inr rfl)
    have hbq := HB1Q.out
    refine ⟨hc3.trans c4, f1.chg c4 (fun e => HQS.out (.inl e.symm)) (fun e => HQS.out (.inr (.inl e.symm))) (fun j hj e => HQS.out (.inr (.inr (e ▸ hj)))), c4.own f2 (fun j hj e => HQR.out j hj e), box_chg f3 c4 (by omega), box_chg f4 c4 (by omega), ?_, c4.cellAt f6 HQC.out, f7.setCell (by show b ≤ q; omega) _⟩
    have := box_setj (j := 0) (v := .int .i64 ((i : Int) + 1)) f5
    rw [List.length_append, EI.out]
    exact this
  case dn =>
    rintro D xs W7 hD hT ⟨h1, h2, h3, h4, h5, h6, h7⟩ hdf
    rw [hT, List.length_map, EN.out] at h5
    have HD := Lib.hid (And.intro h4 (And.intro hdf (And.intro h7 hD)))
    have H7 := Lib.hid (And.intro h2 (And.intro h3 h5))
    have HBL := Lib.hid (show b + 1 < W7.heap.size from box_lt h4)
    have hfin : ∀ W8, Grows W7 W8 → ∀ Wf, Grows (W8.setCell ⟨b + 1, 0, none⟩ (.bool true)) Wf → Wf.heap[D]? = some (.deferred (some [])) ∧ (Wf.putObj D (.deferred none)).cell? ⟨b + 1, 0, none⟩ = some (.bool true) ∧ Below b w (Wf.putObj D (.deferred none)) := fun W8 hg8 Wf hf => by
      obtain ⟨h4, hdf, h7, hD⟩ := HD.out
      have h9 := box_lt (box_grows h4 hg8)
      exact mark_end (box_grows h4 hg8) (box_grows hdf hg8) (h7.trans ((hg8 : Below _ _ _).mono (Nat.le_of_lt (box_lt h3)))) (Nat.le_succ _) hD (by rw [← EB.out]; exact G6.out.size) (by rw [EB.out]; exact Nat.le_refl _) (by omega) hf
    have HFIN := Lib.hid hfin
    cases l with
    | nil =>
      have HM := Lib.hid (tmin_noneI h1)
      have hn0 : n = 0 := EN.out.symm
      subst hn0
      clear h1 h2 h3 h4 h5 h6 h7 hdf hD hfin hT
      go_wp2_with fail
      refine (HM.out).mono ?_
      rintro e w8 ⟨rfl, hg8⟩
      have G8 := Lib.hid hg8
      have f3 := box_grows H7.out.2.1 hg8
      have f5 := box_grows H7.out.2.2 hg8
      have f4 := box_grows HD.out.1 hg8
      obtain ⟨b0, -⟩ := cell_in f3 0 rfl
      obtain ⟨q0, -⟩ := cell_in f5 0 rfl
      obtain ⟨b3, b3f⟩ := cell_in f4 0 rfl
      have z1 := box_lt f3
      have z2 := box_lt f4
      have z3 := box_lt f5
      have hq := fun W => key_eql ⟨0, 0, 0⟩ ⟨0, 0, 0⟩ W
      rw [decide_eq_true rfl] at hq
      simp only [KW.val] at hq ⊢
      clear hg8 f3 f4 f5
      go_wp2_with fail
      obtain ⟨Wf, eWf⟩ : ∃ Wf, (w8.setCell ⟨b + 1, 0, none⟩ (.bool true)).alloc (.cells #[.int .i64 0, .int .i64 0, .int .u32 0] 29) = Wf := ⟨_, rfl⟩
      obtain ⟨h1, h2, h3⟩ := HFIN.out w8 G8.out Wf (by rw [← eWf]; exact bl_alloc (Below.refl _ _) _)
      rw [eWf]
      refine ⟨by simp, .inl ⟨_, _, rfl, run_takeDeferred h1, ?_⟩⟩
      refine ⟨.bool true, by simp [results, Try.results23, go_sem, h2], rfl, ?_⟩
      show Below w.heap.size w _
      rw [EB.out]
      exact h3
    | cons x l' =>
      have HM := Lib.hid (tmin_someI h1)
      have hn0 : 0 < n := by rw [← EN.out]; exact Nat.succ_pos _
      have hn1 : (0 : Int) < (n : Int) := Int.ofNat_lt.2 hn0
      have hn2 : (n = 0) = False := eq_false (Nat.ne_of_gt hn0)
      have hn3 : ((n : Int) = 0) = False := eq_false (by omega)
      clear h1 h2 h3 h4 h5 h6 h7 hdf hD hfin hT
      go_wp2_with fail
      refine (HM.out).mono ?_
      rintro e w8 ⟨rfl, hg8⟩
      have G8 := Lib.hid hg8
      have f3 := box_grows H7.out.2.1 hg8
      have f5 := box_grows H7.out.2.2 hg8
      have f4 := box_grows HD.out.1 hg8
      have f2 := own_grows H7.out.1 hg8
      obtain ⟨g, c', he, hcap, hgl, hat⟩ := ROwn.form f2 EN.out hn0
      simp only [Value.slice.injEq, true_and] at he
      obtain ⟨rfl, rfl⟩ := he
      obtain ⟨p0, p1, p2, p3⟩ := rat_cells hat 0 (Nat.succ_pos _)
      simp only [List.getElem_cons_zero, Nat.zero_mul, Nat.add_zero, Nat.zero_add] at p0 p1 p2 p3
      obtain ⟨b0, -⟩ := cell_in f3 0 rfl
      obtain ⟨q0, -⟩ := cell_in f5 0 rfl
      obtain ⟨b3, b3f⟩ := cell_in f4 0 rfl
      have z1 := box_lt f3
      have z2 := box_lt f4
      have z3 := box_lt f5
      have hq := fun W => key_eql x.1 x.1 W
      rw [decide_eq_true rfl] at hq
      simp only [KW.val] at hq ⊢
      have HN0 := Lib.hid hn0
      clear hg8 f2 f3 f4 f5 hat hcap hn0
      go_wp2_with fail
      refine wp_region_tail_reg 26 (by kernel_rfl) (by kernel_rfl) (by kernel_rfl) (by kernel_rfl) ?_
      simp only [List.take_succ_cons, List.take_zero, List.drop_succ_cons, List.drop_zero]
      repeat (first | go_big_quiet_step ((fail)) | quiet_step ((fail)))
      refine wpQuiet_nil ?_
      intro _ hcw1
      obtain ⟨pq, hcw2⟩ := hcw1
      subst hcw2
      go_wp2_with fail
      obtain ⟨Wf, eWf⟩ : ∃ Wf, reg ((w8.setCell ⟨b + 1, 0, none⟩ (.bool true)).alloc (.cells #[.int .i64 x.1.t, .int .i64 x.1.f, .int .u32 x.1.s] 29)) pq = Wf := ⟨_, rfl⟩
      obtain ⟨h1, h2, h3⟩ := HFIN.out w8 G8.out Wf (by rw [← eWf]; exact bl_reg (bl_alloc (Below.refl _ _) _) _)
      rw [eWf]
      refine ⟨by simp, .inl ⟨_, _, rfl, run_takeDeferred h1, ?_⟩⟩
      refine ⟨.bool true, by simp [results, Try.results23, go_sem, h2], rfl, ?_⟩
      show Below w.heap.size w _
      rw [EB.out]
      exact h3
end
end Go.Proofs.Ytdmmceclohkkdaa
