/- A history's Put. -/
import Derived.Test.YtdmmceclohkkdaaHistB
namespace Go.Proofs.Ytdmmceclohkkdaa
open Go.RowKit Go.Sort
set_option maxHeartbeats 4000000
set_option maxRecDepth 100000
/-- What waits, one more. -/
def insH (l : List HW) (h : HW) : List HW := l.takeWhile (fun y => lessK y.1.k h.1.k) ++ h :: l.dropWhile (fun y => lessK y.1.k h.1.k)
theorem insH_hv (l : List HW) (h : HW) : (insH l h).map hv = insT (l.map hv) h.1.k h.1.val := by
  unfold insH insT
  rw [List.map_append, List.map_cons, ← map_takeWhile' hv (fun p => lessK p.1 h.1.k) l, ← map_dropWhile' hv (fun p => lessK p.1 h.1.k) l]
theorem insH_mem {l : List HW} {h y : HW} (hy : y ∈ insH l h) : y = h ∨ y ∈ l := by
  unfold insH at hy
  rcases List.mem_append.1 hy with h1 | h1
  · exact .inr ((List.takeWhile_sublist _).subset h1)
  · rcases List.mem_cons.1 h1 with h1 | h1
    · exact .inl h1
    · exact .inr ((List.dropWhile_sublist _).subset h1)
def bumpM (g : Int × Int → Int) (x : Int × Int) (d : Int) (y : Int × Int) : Int := if y = x then wrap64 (g x + d) else g y
abbrev PW.at' (x : PW) (ba : Option Addr) (bl bc : Nat) : PW := { x with ba := ba, bl := bl, bc := bc }
/-- What Put says. -/
def hputE (l : List HW) (most : Nat) (dl : Int) (last : KW) (sm : Bool) (x : PW) : Int := if checkE x.kd x.k dl last sm = 0 then putE (l.map hv) most x.k else checkE x.kd x.k dl last sm
/-- What a call leaves that changes a history. -/
def HistTo (w : World) (base hb tb : Nat) (kv : Value) (mb wb : Nat) (most : Nat) (dl : Int) (last : KW) (sm : Bool) (l : List HW) (g : Int × Int → Int) (r : Value) (e : Ending) (w' : World) : Prop :=
  e = .returned r ∧ ∃ kv', HistAt w' base hb tb kv' mb wb most dl last sm l g ∧ Chg (HistS hb tb kv mb wb) w w' ∧ ∀ j, kv'.ownBlock = some j → kv.ownBlock = some j ∨ w.heap.size ≤ j
section
variable {w : World} {base hb tb mb wb most : Nat} {kv : Value} {dl : Int} {last : KW} {sm : Bool} {l : List HW} {g : Int × Int → Int}
theorem hput_bad (x : PW) (h : HistAt w base hb tb kv mb wb most dl last sm l g) (hE : checkE x.kd x.k dl last sm ≠ 0) :
    Calls Try.prog 43 #[.pointer (some ⟨hb, 0, none⟩), x.val] w (RetV w (.int .i64 (checkE x.kd x.k dl last sm))) := by
  have hgb : Grows w (w.alloc (.cells x.cells TPK)) := bl_alloc (Below.refl _ _) _
  have hbx := heap_alloc_new w (.cells x.cells TPK)
  obtain ⟨W, eW⟩ : ∃ W, w.alloc (.cells x.cells TPK) = W := ⟨_, rfl⟩
  rw [eW] at hgb hbx
  have HC := Lib.hid (hcheck_any x (h.grows hgb))
  have HG := Lib.hid hgb
  obtain ⟨x0, x1, x2, x3, x4, x5, x6, x7, x8, x9, x10, x11, x12⟩ := pat_of hbx
  simp only [PW.cells, PW.body] at eW
  obtain ⟨r, er⟩ : ∃ r, checkE x.kd x.k dl last sm = r := ⟨_, rfl⟩
  rw [er] at HC hE ⊢
  have hr1 : (r == 0) = false := beq_false_of_ne hE
  have hr2 : (r != 0) = true := bne_iff_ne.2 hE
  clear h hgb hbx er
  go_enter Try.func43, Try.ntmps43
  go_wp2_with fail
  refine (HC.out).mono ?_
  rintro e w1 ⟨rfl, hg1⟩
  have HG1 := Lib.hid (grows_trans _ _ _ HG.out hg1)
  clear hg1 x0 x1 x2 x3 x4 x5 x6 x7 x8 x9 x10 x11 x12
  go_wp2_with fail
  go_ret
  exact ⟨rfl, HG1.out⟩
/-- The call as far as the rows are asked: what lies in memory then. -/
structure PutMid (w : World) (base hb tb : Nat) (kv : Value) (mb wb : Nat) (most : Nat) (dl : Int) (last : KW) (sm : Bool) (l : List HW) (g : Int × Int → Int) (x : PW) (b : List Int) (y : PW) (W : World) : Prop where
  his : HistAt W base hb tb kv mb wb most dl last sm l g
  box : W.heap[w.heap.size]? = some (.cells y.cells TPK (0, 0))
  row : BRow W base y.body b
  grows : Grows w W
theorem PutMid.next {x y : PW} {b : List Int} {W W' : World} (h : PutMid w base hb tb kv mb wb most dl last sm l g x b y W) (hg : Grows W W') : PutMid w base hb tb kv mb wb most dl last sm l g x b y W' :=
  ⟨h.his.grows hg, box_grows h.box hg, own_grows h.row hg, grows_trans _ _ _ h.grows hg⟩
theorem put_mid {x : PW} {b : List Int} {ba : Option Addr} {bl bc : Nat} {W w2 : World} (h : HistAt w base hb tb kv mb wb most dl last sm l g) (hbase : base ≤ w.heap.size) (hgb : Grows w W) (hbx : W.heap[w.heap.size]? = some (.cells x.cells TPK (0, 0))) (hg2 : Grows W w2) (hr : BRow w2 W.heap.size (.slice ba bl bc) b) :
    PutMid w base hb tb kv mb wb most dl last sm l g x b (x.at' ba bl bc) (w2.setCell ⟨w.heap.size, 11, none⟩ (.slice ba bl bc)) := by
  have hc : Chg (fun j => j = w.heap.size) w2 (w2.setCell ⟨w.heap.size, 11, none⟩ (.slice ba bl bc)) := Chg.setCell (Chg.refl _ _) _ (.inr rfl)
  have hb2 := box_grows hbx hg2
  have g2 := grows_trans _ _ _ hgb hg2
  have h2 := h.grows g2
  have hg3 : Grows w (w2.setCell ⟨w.heap.size, 11, none⟩ (.slice ba bl bc)) := grows_of_chg g2 hc (fun j hj => by rw [hj]; exact Nat.le_refl _)
  refine ⟨h.grows hg3, box_setj (j := 11) hb2, ?_, hg3⟩
  refine hc.own (row_base hr (Nat.le_trans hbase hgb.size)) fun j hj hs => ?_
  have h9 := (hr.lt j hj).1
  have h8 := box_lt hbx
  omega
theorem PutMid.rows {x y : PW} {b : List Int} {W w4 : World} {l' : List HW} {r : Value} {e : Ending} (h : PutMid w base hb tb kv mb wb most dl last sm l g x b y W) (hto : TabTo TTP W base tb kv mb (l'.map hv) most r e w4) (hl' : ∀ u ∈ l', BRow W base u.1.body u.2) :
    e = .returned r ∧ ∃ kv4, HistAt w4 base hb tb kv4 mb wb most dl last sm l' g ∧ w4.heap[w.heap.size]? = some (.cells y.cells TPK (0, 0)) ∧ Chg (HistS hb tb kv mb wb) w w4 ∧ ∀ j, kv4.ownBlock = some j → kv.ownBlock = some j ∨ w.heap.size ≤ j := by
  obtain ⟨rfl, kv4, k1, k2, k3⟩ := hto
  have hh := h.his
  refine ⟨rfl, kv4, ⟨box_chg hh.ob k2 hh.hS, k1, hh.mine.chg k2 hh.wS, fun u hu => k2.own (hl' u hu) fun j hj hs => ?_, hh.bh, hh.bw, hh.wm, hh.d0, hh.d1⟩, box_chg h.box k2 (notS hh.tab h.box (by decide) (by decide)), (Chg.ofGrows h.grows).trans (k2.mono fun j _ hj => .inr (.inr hj)), fun j hj => ?_⟩
  · obtain ⟨cur, hg⟩ := brow_ty (hl' u hu) hj
    exact notS hh.tab hg (by decide) (by decide) hs
  · rcases k3 j hj with h1 | h1
    · exact .inl h1
    · exact .inr (Nat.le_trans h.grows.size h1)
/-- The count is changed. -/
theorem HistAt.bump {o1 o2 : Obj} {g2 : Int × Int → Int} (h : HistAt w base hb tb kv mb wb most dl last sm l g) (hm : MineAt ((w.putObj wb o1).putObj wb o2) wb g2) :
    HistAt ((w.putObj wb o1).putObj wb o2) base hb tb kv mb wb most dl last sm l g2 ∧ Chg (fun j => j = wb) w ((w.putObj wb o1).putObj wb o2) := by
  have hc : Chg (fun j => j = wb) w ((w.putObj wb o1).putObj wb o2) := Chg.putObj (S := fun j => j = wb) (Chg.putObj (S := fun j => j = wb) (Chg.refl _ _) o1 (.inr rfl)) o2 (.inr rfl)
  refine ⟨⟨box_chg h.ob hc h.hw, h.tab.chg hc (fun e => h.wS (.inl e.symm)) (fun e => h.wm e.symm) (fun j hj e => h.wS (.inr (.inr (e ▸ hj)))), hm, fun u hu => hc.own (h.bod u hu) fun j hj e => ?_, h.bh, h.bw, h.wm, h.d0, h.d1⟩, hc⟩
  obtain ⟨cur, hg⟩ := brow_ty (h.bod u hu) hj
  exact mine_ne_cells h.mine (e ▸ hg)
/-- What a count's change needs: the entry, looked up ahead of it or behind, and set. -/
theorem HistAt.count (h : HistAt w base hb tb kv mb wb most dl last sm l g) (f kd d : Int) :
    ∃ o1 st o2, (Instr.mapEntry TMW (.map (some wb)) (.agg #[.int .i64 f, .int .i64 kd])).run Try.prog w = .ok (.tuple #[.int .i64 (g (f, kd)), .int .i64 st]) (w.putObj wb o1) ∧
      (Instr.lookup TMW (.map (some wb)) (.agg #[.int .i64 f, .int .i64 kd]) false).run Try.prog w = .ok (.int .i64 (g (f, kd))) w ∧
      (Instr.lookup TMW (.map (some wb)) (.agg #[.int .i64 f, .int .i64 kd]) false).run Try.prog (w.putObj wb o1) = .ok (.int .i64 (g (f, kd))) (w.putObj wb o1) ∧
      (Instr.entryStore TMW (.map (some wb)) (.int .i64 st) (.int .i64 (wrap64 (g (f, kd) + d)))).run Try.prog (w.putObj wb o1) = .ok () ((w.putObj wb o1).putObj wb o2) ∧
      (Instr.entryStore TMW (.map (some wb)) (.int .i64 st) (.int .i64 (IntKind.i64.wrap (g (f, kd) + d)))).run Try.prog (w.putObj wb o1) = .ok () ((w.putObj wb o1).putObj wb o2) ∧
      (w.putObj wb o1).cell? ⟨hb, 1, none⟩ = some (.map (some wb)) ∧ hb < (w.putObj wb o1).heap.size ∧ w.cell? ⟨hb, 1, none⟩ = some (.map (some wb)) ∧ hb < w.heap.size ∧
      HistAt ((w.putObj wb o1).putObj wb o2) base hb tb kv mb wb most dl last sm l (bumpM g (f, kd) d) ∧ Chg (fun j => j = wb) w ((w.putObj wb o1).putObj wb o2) := by
  obtain ⟨o1, st, oc1, he, hm1, hst⟩ := h.mine.entry (f, kd)
  obtain ⟨o2, oc2, hs2, hm2⟩ := hst (wrap64 (g (f, kd) + d))
  have hc1 : Chg (fun j => j = wb) w (w.putObj wb o1) := Chg.putObj (S := fun j => j = wb) (Chg.refl _ _) o1 (.inr rfl)
  have hob1 := box_chg h.ob hc1 h.hw
  have hb2 := h.bump hm2
  exact ⟨o1, st, o2, he, h.mine.look (f, kd), hm1.look (f, kd), hs2, by rw [wrapEq]; exact hs2, (cell_in hob1 1 rfl).1, box_lt hob1, (cell_in h.ob 1 rfl).1, h.lt, hb2.1, hb2.2⟩
end
end Go.Proofs.Ytdmmceclohkkdaa
