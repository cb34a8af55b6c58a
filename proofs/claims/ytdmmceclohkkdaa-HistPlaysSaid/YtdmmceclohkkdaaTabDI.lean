/- A table's Del, at rows of int64. -/
import Derived.Test.YtdmmceclohkkdaaTabCI
import Derived.Test.YtdmmceclohkkdaaTabQ
namespace Go.Proofs.Ytdmmceclohkkdaa
open Go.RowKit Go.Sort
set_option maxHeartbeats 4000000
set_option maxRecDepth 100000
theorem tdel_noI {w : World} {base tb mb : Nat} {kv : Value} {m : List (KW × Value)} {most : Nat} (k : KW) (h : TabAt TTI w base tb kv mb m most) (hno : getK m k = none) :
    Calls Try.prog 35 #[.pointer (some ⟨tb, 0, none⟩), k.val] w (TabTo TTI w base tb kv mb m most (.bool false)) := by
  have HE := Lib.hid (fun w' hg => TabTo.same (r := .bool false) h (w' := w') hg)
  have hgb : Grows w (w.alloc (.cells #[.int .i64 k.t, .int .i64 k.f, .int .u32 k.s] 29)) := bl_alloc (Below.refl _ _) _
  have hbx := heap_alloc_new w (.cells #[.int .i64 k.t, .int .i64 k.f, .int .u32 k.s] 29)
  obtain ⟨W, eW⟩ : ∃ W, w.alloc (.cells #[.int .i64 k.t, .int .i64 k.f, .int .u32 k.s] 29) = W := ⟨_, rfl⟩
  rw [eW] at hgb hbx
  have hW := h.grows hgb
  have hl : ∀ p, (Instr.lookup 105 (.map (some mb)) k.val true).run Try.prog (reg W p) = .ok (.tuple #[.int .i64 0, .bool false]) (reg W p) := fun p => by
    have := (hW.map.grows (below_reg W p)).look Try.underlying105 (zeroI _) k true
    rw [this, hno]
    rfl
  obtain ⟨c1, -⟩ := cell_in hW.ob 1 rfl
  obtain ⟨t0, -⟩ := cell_in hbx 0 rfl
  obtain ⟨t1, -⟩ := cell_in hbx 1 rfl
  obtain ⟨t2, -⟩ := cell_in hbx 2 rfl
  have z1 := hW.lt
  have z2 := box_lt hbx
  have HG := Lib.hid hgb
  clear hgb hbx h hW hno
  go_enter Try.func35, Try.ntmps35
  go_wp2_with fail
  refine wp_region_reg (by kernel_rfl) (by kernel_rfl) ?_
  repeat (first | go_big_quiet_step ((fail)) | quiet_step ((fail)))
  refine wpQuiet_nil ?_
  intro _ hcw1
  obtain ⟨pq, hcw2⟩ := hcw1
  subst hcw2
  go_wp2_with fail
  go_ret
  exact HE.out _ (grows_trans _ _ _ HG.out (below_reg _ _))
theorem tdel_inI {w : World} {base tb mb : Nat} {kv : Value} {m : List (KW × Value)} {most : Nat} (k : KW) (u : Value) (h : TabAt TTI w base tb kv mb m most) (hyes : getK m k = some u) :
    Calls Try.prog 35 #[.pointer (some ⟨tb, 0, none⟩), k.val] w (TabDel TTI w base tb kv mb (delT m k) most (.bool true)) := by
  have hmem : k ∈ m.map (·.1) := by
    rw [← Classical.not_not (a := k ∈ m.map (·.1)), ← getK_none, hyes]; simp
  obtain ⟨hdk, hdp⟩ := del_keys h.rises hmem
  have hgb : Grows w (w.alloc (.cells #[.int .i64 k.t, .int .i64 k.f, .int .u32 k.s] 29)) := bl_alloc (Below.refl _ _) _
  have hbx := heap_alloc_new w (.cells #[.int .i64 k.t, .int .i64 k.f, .int .u32 k.s] 29)
  obtain ⟨W, eW⟩ : ∃ W, w.alloc (.cells #[.int .i64 k.t, .int .i64 k.f, .int .u32 k.s] 29) = W := ⟨_, rfl⟩
  rw [eW] at hgb hbx
  have hW := h.grows hgb
  have hl : ∀ p, (Instr.lookup 105 (.map (some mb)) k.val true).run Try.prog (reg W p) = .ok (.tuple #[u, .bool true]) (reg W p) := fun p => by
    have := (hW.map.grows (below_reg W p)).look Try.underlying105 (zeroI _) k true
    rw [this, hyes]
    rfl
  obtain ⟨c1, -⟩ := cell_in hW.ob 1 rfl
  obtain ⟨t0, -⟩ := cell_in hbx 0 rfl
  obtain ⟨t1, -⟩ := cell_in hbx 1 rfl
  obtain ⟨t2, -⟩ := cell_in hbx 2 rfl
  have z1 := hW.lt
  have z2 := box_lt hbx
  have HG := Lib.hid hgb
  have HH := Lib.hid h
  have HBX := Lib.hid hbx
  have HDK := Lib.hid hdk
  have HDP := Lib.hid hdp
  clear hgb hbx h hW hyes hmem hdk hdp
  go_enter Try.func35, Try.ntmps35
  go_wp2_with fail
  refine wp_region_reg (by kernel_rfl) (by kernel_rfl) ?_
  repeat (first | go_big_quiet_step ((fail)) | quiet_step ((fail)))
  refine wpQuiet_nil ?_
  intro _ hcw1
  obtain ⟨pq, hcw2⟩ := hcw1
  subst hcw2
  have hg1 : Grows W (reg W pq) := below_reg _ _
  refine gen_worldI (p := fun w' => Exit.then _ _ _ _ w') hg1 ?_
  intro W0 hg0
  clear hg1 hl c1 t0 t1 t2 z1 z2
  have h0 := HH.out.grows (grows_trans _ _ _ HG.out hg0)
  have hbx0 := box_grows HBX.out hg0
  have hpl := tplaceI k h0
  have hml : (m.map (·.1)).length ≤ 100000 := by rw [List.length_map]; exact Nat.le_trans HH.out.few (Nat.le_trans HH.out.most (by decide))
  obtain ⟨pos, epos⟩ : ∃ pos, posK (m.map (·.1)) k = pos := ⟨_, rfl⟩
  rw [epos] at hpl HDK HDP
  have hws : wrap64 ((pos : Int) + 1) = (pos : Int) + 1 := wrap_succ (Nat.le_trans (Nat.le_of_lt HDP.out) (Nat.le_trans hml (by decide)))
  have HPL := Lib.hid hpl
  have HML := Lib.hid hml
  have HG0 := Lib.hid hg0
  have H0 := Lib.hid h0
  have HX0 := Lib.hid hbx0
  obtain ⟨t0, -⟩ := cell_in hbx0 0 rfl
  obtain ⟨t1, -⟩ := cell_in hbx0 1 rfl
  obtain ⟨t2, -⟩ := cell_in hbx0 2 rfl
  have HWS := Lib.hid hws
  clear hpl hml hg0 h0 hbx0 epos hws eW
  go_wp2_with fail
  refine (HPL.out).mono ?_
  rintro e w2 ⟨rfl, hg2⟩
  have h2 := H0.out.grows hg2
  obtain ⟨c0, -⟩ := cell_in h2.ob 0 rfl
  have HG2 := Lib.hid hg2
  have H2 := Lib.hid h2
  have hws := HWS.out
  clear hg2 h2 t0 t1 t2
  go_wp2_with fail
  refine (kdel_any H2.out.own HDP.out HML.out).mono ?_
  rintro e w3 ⟨kv', rfl, ho, hc, hob⟩
  rw [HDK.out] at ho
  obtain ⟨a2, cap2, rfl⟩ := (kown_has ho).len (List.length_map ..)
  have hg1 := grows_trans _ _ _ HG.out (grows_trans _ _ _ HG0.out HG2.out)
  have hob3 := box_chg H2.out.ob hc (H2.out.kne (by decide))
  have hmp3 := H2.out.map.chg hc H2.out.kmne
  have hbx3 := box_chg (box_grows HX0.out HG2.out) hc (fun hj => Nat.lt_irrefl _ (HH.out.own.lt w.heap.size hj).2)
  have hlt := HH.out.lt
  obtain ⟨c3, f3⟩ := cell_in hob3 0 rfl
  obtain ⟨kv', ekv⟩ : ∃ kv', Value.slice a2 (delT m k).length cap2 = kv' := ⟨_, rfl⟩
  obtain ⟨w4, e4⟩ : ∃ w4, w3.setCell ⟨tb, 0, none⟩ (Value.slice a2 (delT m k).length cap2) = w4 := ⟨_, rfl⟩
  have hc4 : Chg (fun j => j = tb) w3 w4 := e4 ▸ Chg.setCell (Chg.refl _ _) _ (.inr rfl)
  have hob4 : w4.heap[tb]? = some (.cells #[kv', .map (some mb), .int .i64 (most : Int)] TTI (0, 0)) := by rw [← e4, ekv]; exact box_setj hob3
  have hbx4 := box_chg hbx3 hc4 (fun e => by rw [e] at hlt; exact Nat.lt_irrefl _ hlt)
  have hmp4 := hmp3.chg hc4 H2.out.ne
  rw [ekv] at ho hob
  have hend := fun q o hm => tab_end2 (r := .bool true) (m' := delT m k) (o := o) q (show TTI ≠ 29 by decide) HH.out hg1 ho hc hob hm (delT_rises HH.out.rises k) (Nat.le_trans (delT_few m k) HH.out.few)
  rw [← ekv, e4] at hend
  have HEND := Lib.hid hend
  have HM4 := Lib.hid hmp4
  obtain ⟨d1, -⟩ := cell_in hob4 1 rfl
  obtain ⟨t0, -⟩ := cell_in hbx4 0 rfl
  obtain ⟨t1, -⟩ := cell_in hbx4 1 rfl
  obtain ⟨t2, -⟩ := cell_in hbx4 2 rfl
  have z1 := box_lt hob4
  have z2 := box_lt hbx4
  clear hend hmp4 hbx4 hob4 hc4 hlt hbx3 hmp3 hob3 hg1 ho hc hob ekv c0 H2 HX0 H0 HPL
  go_wp2_with fail
  refine wp_region_tail_drewN 5 (by kernel_rfl) (by kernel_rfl) (by kernel_rfl) (by kernel_rfl) ?_
  simp only [List.take_succ_cons, List.take_zero, List.drop_succ_cons, List.drop_zero]
  repeat (first | go_big_quiet_step ((fail)) | quiet_step ((fail)))
  refine wpQuiet_nil ?_
  intro _ hcw1
  obtain ⟨nq, hcw2⟩ := hcw1
  subst hcw2
  obtain ⟨o, hrun, hoc, hm⟩ := (HM4.out.of_block (w' := w4.drewN nq) rfl).del Try.underlying105 k 29 0
  have hm2 := hm.congr (getK_delT m k)
  have HM := Lib.hid hm2
  clear hm hm2
  go_wp2_with fail
  go_ret
  exact HEND.out _ _ HM.out
theorem tdel_okI {w : World} {base tb mb : Nat} {kv : Value} {m : List (KW × Value)} {most : Nat} (k : KW) (u : Value) (h : TabAt TTI w base tb kv mb m most) (hyes : getK m k = some u) :
    Calls Try.prog 35 #[.pointer (some ⟨tb, 0, none⟩), k.val] w (TabTo TTI w base tb kv mb (delT m k) most (.bool true)) := (tdel_inI k u h hyes).mono fun _ _ h => h.to
end Go.Proofs.Ytdmmceclohkkdaa
