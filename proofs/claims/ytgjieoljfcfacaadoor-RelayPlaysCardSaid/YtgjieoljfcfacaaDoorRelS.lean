/- A call, of both: Onward. -/
import Derived.Test.YtgjieoljfcfacaaDoorRelR
namespace Go.Proofs.YtgjieoljfcfacaaDoor
open Go.RowKit Go.Sort
set_option maxHeartbeats 4000000
set_option maxRecDepth 100000
theorem pk_one (y : PW) : ∀ u ∈ y.cells.toList, u.oneCell' = true := by
  intro u hu
  simp only [List.mem_cons, List.not_mem_nil, or_false] at hu
  rcases hu with rfl | rfl | rfl | rfl | rfl | rfl | rfl | rfl | rfl | rfl | rfl | rfl <;> rfl
/-- The packet's box is set, in new memory. -/
structure Cut9 (w5 : World) (p2 : Nat) (y : PW) (wx : World) : Prop where
  g : Grows w5 wx
  b : wx.heap[p2]? = some (.cells y.cells TPK (0, 0))
/-- What the last region reads. -/
structure S17 (W0 w : World) (base rb sb tb mb : Nat) (kv : Value) (M : Nat) (me n : Int) (B : BV) (v : Value) (l : List DR) (b p1 p2 : Nat) (y : PW) (v2 v5 : Value) (ol yl : List Int) : Prop where
  b : w.heap[b]? = some (.cells (rdc me n B v M) TRR (0, 0))
  p1 : w.heap[p1]? = some (.cells y.cells TPK (0, 0))
  p2 : w.heap[p2]? = some (.cells y.cells TPK (0, 0))
  rd : RD W0 w base rb sb tb mb kv M me n B v l
  i2 : IHas w v2 ol
  i5 : IHas w v5 ol
  yb : BHas w y.ba y.bl y.bc yl
theorem on_bytes {w : World} {x : PW} {bb : List Int} (B : BV) (h : BHas w x.ba x.bl x.bc bb) : ∃ yb, BHas w (onP B x).ba (onP B x).bl (onP B x).bc yb := by
  unfold onP
  split
  · exact ⟨bb, h⟩
  · exact ⟨[], rfl, .inl rfl⟩
theorem onL_length (B : BV) (x : PW) (s : Nat) (f : Int) : (onL B x s f).length ≤ 1000 := by
  unfold onL
  split
  · exact Nat.le_trans (listTo_length _ 64) (by decide)
  · simp
/-- The call is of kind 4. -/
theorem one_on {W0 w : World} {base rb sb tb mb M : Nat} {kv v : Value} {l : List DR} {me n : Int} {B : BV} (q tol now : Int) (x : PW) (s : Nat) (f : Int) (h : RD W0 w base rb sb tb mb kv M me n B v l)
    (hq0 : q.tmod 5 = 4) (hs : s < 18446744073709551616) (hT : Laid w) {bb : List Int} (hbx : BHas w x.ba x.bl x.bc bb) :
    Calls Tryd.prog 13 #[.pointer (some ⟨rb, 0, none⟩), rdv me n B v M, .agg (actC q tol now x s f)] w (OneTo W0 w base rb sb tb mb kv M me n B l) := by
  obtain ⟨ln, eln⟩ : ∃ ln, l.length = ln := ⟨_, rfl⟩
  obtain ⟨a, cap, rfl⟩ := ROwn.len h.own eln
  obtain ⟨b, ep⟩ : ∃ b, w.heap.size = b := ⟨_, rfl⟩
  have hq2 := three_box w (.cells (rdc me n B (.slice a ln cap) M) TRR) (.cells (actC q tol now x s f) TRA) (.cells zrd TRR)
  obtain ⟨W, eW⟩ : ∃ W, ((w.alloc (.cells (rdc me n B (.slice a ln cap) M) TRR)).alloc (.cells (actC q tol now x s f) TRA)).alloc (.cells zrd TRR) = W := ⟨_, rfl⟩
  have hg : Grows w W := by rw [← eW]; exact bl_alloc (bl_alloc (bl_alloc (Below.refl _ _) _) _) _
  rw [eW, ep] at hq2
  have HD := Lib.hid (h.grows hg)
  have HON := Lib.hid (ronward_any s f x hs (h.grows hg).rel (hT.grows hg))
  have HDO := Lib.hid (fun W' => donward_any (w := W') (M := M) (me := me) (n := n) (B := B) (v := .slice a ln cap) s f x hs ⟨_, _, _, rfl⟩)
  have HBX := Lib.hid hbx
  have HOL := Lib.hid (onL_length B x s f)
  have HQ := Lib.hid hq2
  have HGW := Lib.hid hg
  have HB0 := Lib.hid (show W0.heap.size ≤ b by rw [← ep]; exact h.gr.size)
  have A1 := actc_of hq2.2.1
  clear h hg hs hT hbx hq2
  simp only [rdv, rdc] at eW ⊢
  go_enter Tryd.func13, Tryd.ntmps13
  have A2 := A1
  obtain ⟨k0, k1, k2, k3, k4, k5, k6, k7, k8, k9, k10, k11, k12, k13, k14, k15, k16, kz⟩ := A1
  obtain ⟨y, ey⟩ : ∃ y, onP B x = y := ⟨_, rfl⟩
  obtain ⟨ol, eol⟩ : ∃ ol, onL B x s f = ol := ⟨_, rfl⟩
  have HEY := Lib.hid ey
  rw [ey] at HON
  rw [eol] at HON HDO HOL
  clear ey eol
  go_wp2_with fail
  refine HON.out.mono ?_
  rintro e w2 ⟨v2, rfl, hg2, ho2⟩
  have I2 := Lib.hid ho2
  have Q2 := Lib.hid (And.intro (box_grows HQ.out.1 hg2) (And.intro (box_grows HQ.out.2.1 hg2) (box_grows HQ.out.2.2 hg2)))
  have R2 := Lib.hid (HD.out.grows hg2)
  have R2G := Lib.hid hg2
  obtain ⟨p1, ep1⟩ : ∃ p1, w2.heap.size = p1 := ⟨_, rfl⟩
  have hl2 := box_lt Q2.out.2.2
  obtain ⟨w3, e3⟩ : ∃ w3, w2.alloc (.cells pz.cells TPK) = w3 := ⟨_, rfl⟩
  have g3 : Grows w2 w3 := by rw [← e3]; exact bl_alloc (Below.refl _ _) _
  have hp3 : w3.heap[p1]? = some (.cells pz.cells TPK (0, 0)) := by rw [← e3, ← ep1]; exact heap_alloc_new w2 _
  have G3 := Lib.hid (And.intro g3 hp3)
  simp only [PW.cells, PW.body] at e3
  clear hg2 ho2 g3 hp3 k0 k1 k2 k3 k4 k5 k6 k7 k8 k9 k10 k11 k12 k13 k14 k15 k16 kz A2 eW
  go_wp2_with (first
    | (refine wpList_store_box rfl 32 (.tmp 11) (.tmp 93) rfl p1 y.cells rfl rfl (Tryd.sizeOf32 _) G3.out.2 rfl (pk_one y) ?_; intro w4 h4 c4; have G4 := Lib.hid (show Grows w2 w4 from grows_chg G3.out.1 c4 (fun j hj => by omega)); have Q4 := Lib.hid (And.intro (box_grows Q2.out.1 G4.out) (And.intro (box_grows Q2.out.2.1 G4.out) (And.intro (box_grows Q2.out.2.2 G4.out) h4))); obtain ⟨k0, k1, k2, k3, k4, k5, k6, k7, k8, k9, k10, k11, k12, k13, k14, k15, k16, kz⟩ := actc_of Q4.out.2.1; clear h4 c4)
    | (refine wpList_load_box rfl 41 (.tmp 4) rfl b (rdc me n B (.slice a ln cap) M) rfl (Tryd.isAgg41 _) (Tryd.sizeOf41 _) Q4.out.1 ?_))
  refine (HDO.out w4).mono ?_
  rintro e w5 ⟨v5, rfl, hg5, hi5⟩
  have G5 := Lib.hid (grows_trans _ _ _ G4.out hg5)
  have I5 := Lib.hid hi5
  have Q5 := Lib.hid (And.intro (box_grows Q4.out.1 hg5) (And.intro (box_grows Q4.out.2.1 hg5) (And.intro (box_grows Q4.out.2.2.1 hg5) (box_grows Q4.out.2.2.2 hg5))))
  have R5 := Lib.hid (R2.out.grows G5.out)
  have O5 := Lib.hid (own_grows I2.out G5.out)
  obtain ⟨p2, ep2⟩ : ∃ p2, w5.heap.size = p2 := ⟨_, rfl⟩
  obtain ⟨w6, e6⟩ : ∃ w6, w5.alloc (.cells pz.cells TPK) = w6 := ⟨_, rfl⟩
  have g6 : Grows w5 w6 := by rw [← e6]; exact bl_alloc (Below.refl _ _) _
  have hp6 : w6.heap[p2]? = some (.cells pz.cells TPK (0, 0)) := by rw [← e6, ← ep2]; exact heap_alloc_new w5 _
  have G6 := Lib.hid (And.intro g6 hp6)
  simp only [PW.cells, PW.body] at e6
  clear hg5 hi5 g6 hp6 k0 k1 k2 k3 k4 k5 k6 k7 k8 k9 k10 k11 k12 k13 k14 k15 k16 kz e3
  go_wp2_with (first
    | (refine wpList_store_box rfl 32 (.tmp 14) (.tmp 103) rfl p2 pz.cells rfl rfl (Tryd.sizeOf32 _) G6.out.2 rfl (pk_one pz) ?_; intro w7 h7 c7; have G7 := Lib.hid (show Grows w5 w7 from grows_chg G6.out.1 c7 (fun j hj => by omega)); have H7 := Lib.hid h7; have Q7 := Lib.hid (And.intro (box_grows Q5.out.1 G7.out) (box_grows Q5.out.2.1 G7.out)); have k3 := (actc_of Q7.out.2).2.2.2.1; have k7 := (actc_of Q7.out.2).2.2.2.2.2.2.2.1; have d2 := (dat_of Q7.out.1).2.2.1; have kz := box_lt Q7.out.2; have dz := box_lt Q7.out.1; clear h7 c7))
  refine (rflood_any x.kd _).mono ?_
  rintro e w8 ⟨rfl, rfl⟩
  clear k3 k7
  obtain ⟨k0, k1, k2, k3, k4, k5, k6, k7, k8, k9, k10, k11, k12, k13, k14, k15, k16, kz⟩ := actc_of Q7.out.2
  clear e6 kz
  have kz := box_lt Q7.out.2
  rcases on_cases B x with ⟨ho, hf⟩ | ⟨ho, hf, j1⟩ | ⟨ho, hf, j1, j2⟩ | ⟨ho, hf, j1, j2, j3⟩ | ⟨ho, hf, j1, j2, j3⟩
  all_goals rw [hf]
  focus
    have HY := Lib.hid (show pz = y by rw [← HEY.out]; unfold onP; rw [ho]; rfl)
    clear ho
    go_wp2_with fail
    obtain ⟨wz, ez, GZ⟩ : ∃ wz, w7 = wz ∧ Hid (Cut9 w5 p2 y wz) := ⟨_, rfl, Lib.hid ⟨G7.out, by rw [← HY.out]; exact H7.out⟩⟩
    rw [ez]
  rotate_left
  focus
    have HY := Lib.hid (show pz = y by rw [← HEY.out]; unfold onP; rw [ho]; rfl)
    have q1 : decide (0 < x.hp) = false := decide_eq_false (by omega)
    clear ho j1
    go_wp2_with fail
    obtain ⟨wz, ez, GZ⟩ : ∃ wz, w7 = wz ∧ Hid (Cut9 w5 p2 y wz) := ⟨_, rfl, Lib.hid ⟨G7.out, by rw [← HY.out]; exact H7.out⟩⟩
    rw [ez]
  rotate_left
  focus
    have HY := Lib.hid (show pz = y by rw [← HEY.out]; unfold onP; rw [ho]; rfl)
    have q1 : decide (0 < x.hp) = true := decide_eq_true (by omega)
    have q2 : decide (x.hp < B.b0) = false := decide_eq_false (by omega)
    clear ho j1 j2
    go_wp2_with fail
    obtain ⟨wz, ez, GZ⟩ : ∃ wz, w7 = wz ∧ Hid (Cut9 w5 p2 y wz) := ⟨_, rfl, Lib.hid ⟨G7.out, by rw [← HY.out]; exact H7.out⟩⟩
    rw [ez]
  rotate_left
  focus
    have HY := Lib.hid (show pz = y by rw [← HEY.out]; unfold onP; rw [ho]; rfl)
    have q1 : decide (0 < x.hp) = true := decide_eq_true (by omega)
    have q2 : decide (x.hp < B.b0) = true := decide_eq_true (by omega)
    have q3 : decide (x.hp < 63) = false := decide_eq_false (by omega)
    clear ho j1 j2 j3
    go_wp2_with fail
    obtain ⟨wz, ez, GZ⟩ : ∃ wz, w7 = wz ∧ Hid (Cut9 w5 p2 y wz) := ⟨_, rfl, Lib.hid ⟨G7.out, by rw [← HY.out]; exact H7.out⟩⟩
    rw [ez]
  rotate_left
  focus
    have HY := Lib.hid (show x.hop = y by rw [← HEY.out]; unfold onP; rw [if_pos ho])
    have q1 : decide (0 < x.hp) = true := decide_eq_true (by omega)
    have q2 : decide (x.hp < B.b0) = true := decide_eq_true (by omega)
    have q3 : decide (x.hp < 63) = true := decide_eq_true (by omega)
    have q4 : wrap64 (x.hp + 1) = x.hp + 1 := by unfold wrap64; omega
    clear ho j1 j2 j3
    go_wp2_with (first
      | (refine wpList_store_box rfl 32 (.tmp 14) (.tmp 130) rfl p2 x.cells rfl rfl (Tryd.sizeOf32 _) H7.out rfl (pk_one x) ?_; intro w9 h9 c9; have H9 := Lib.hid h9; have C9 := Lib.hid c9; have p4 := (pat_of h9).2.2.2.2.1; have f4 := (pfree_of h9).2.2.2.2.1; have pz9 := box_lt h9; clear h9 c9))
    have hz : Cut9 w5 p2 y (w9.setCell ⟨p2, 4, none⟩ (.int .i64 (x.hp + 1))) := ⟨grows_chg G7.out (C9.out.trans (Chg.setCell (S := fun j => j = p2) (Chg.refl _ _) _ (.inr rfl))) (fun j hj => by omega), by rw [← HY.out]; exact box_setj (j := 4) H9.out⟩
    obtain ⟨wz, ez, GZ⟩ : ∃ wz, w9.setCell ⟨p2, 4, none⟩ (.int .i64 (x.hp + 1)) = wz ∧ Hid (Cut9 w5 p2 y wz) := ⟨_, rfl, Lib.hid hz⟩
    rw [ez]
    try simp only [q4]
    clear hz q1 q2 q3 q4 p4 f4 pz9
  rotate_left
  all_goals
    clear ez d2 dz kz k0 k1 k2 k3 k4 k5 k6 k7 k8 k9 k10 k11 k12 k13 k14 k15 k16
    try simp only [Act.put]
    have RZ := Lib.hid (R5.out.grows GZ.out.g)
    obtain ⟨yb, hyb⟩ := on_bytes B HBX.out
    have HT9 := Lib.hid (fun w' (hE : Chg (fun j => j = b + 1 + 1) wz w') => show S17 W0 w' base rb sb tb mb kv M me n B (.slice a ln cap) l b p1 p2 y v2 v5 ol yb from by
      have q6 := box_grows Q5.out.2.2.1 GZ.out.g
      have hlt5 := box_lt Q5.out.2.2.2
      refine ⟨box_chg (box_grows Q5.out.1 GZ.out.g) hE (by omega), box_chg (box_grows Q5.out.2.2.2 GZ.out.g) hE (by omega), box_chg GZ.out.b hE (by omega), RZ.out.set q6 hE (by have := HB0.out; omega), ?_, ?_, ?_⟩
      · exact ihas_of (hE.own (own_grows O5.out GZ.out.g) (fun j hj e => by have := (O5.out.lt j hj).1; have := box_lt HQ.out.2.2; omega))
      · exact IOwn.has (hE.own (own_grows I5.out GZ.out.g) (fun j hj e => by have := (I5.out.lt j hj).1; have := box_lt Q4.out.2.2.1; omega))
      · rw [HEY.out] at hyb
        exact hyb.grows (grows_chg (grows_trans _ _ _ HGW.out (grows_trans _ _ _ R2G.out (grows_trans _ _ _ G5.out GZ.out.g))) hE (fun j hj => by omega)))
    have GZB := Lib.hid (box_grows Q5.out.2.2.1 GZ.out.g)
    clear hyb
    refine WideN.wp_flag (fun j => j = b + 1 + 1) [.fix _ (.agg (rdc me n B (.slice a ln cap) M)), .fix _ v2, .fix _ v5, .fix _ (.bool true), .fix _ (.bool true), .fix _ y.val, .fix _ y.val, .fix _ (.bool true), .fix _ (.bool true), .none _, .fix _ (.bool true)] (BoxJ (b + 1 + 1) zrd (rdc me n B (.slice a ln cap) M) TRR) 9 9 ?_ (by kernel_rfl) (by kernel_rfl) rfl rfl (fun vals => by simp [Act.over, dstsOf, overL]; rfl) ?_ ?_ ?_
    · exact box_grows GZB.out (bl_drew (Below.refl _ _))
    · refine ⟨?_, ?_, ?_, ?_, ?_, ?_, ?_, ?_, ?_, ?_, ?_, trivial⟩
      all_goals
        intro vals w' x' y' hE hJ hx hy _ hn R hR
        simp [WideN.needsOf, Region.binds, dstAt, gOf, SG.fix, SG.none] at hn hR hy
        have HR0 := Lib.hid hR
        try simp only [hn] at hR
        have HR := Lib.hid hR
        have HJ := Lib.hid hJ
        have Q := Lib.hid (HT9.out w' hE)
        clear hR hE hJ hx
      · go_wp2_with (refine wpList_load_box rfl 41 (.tmp 4) rfl b (rdc me n B (.slice a ln cap) M) rfl (Tryd.isAgg41 _) (Tryd.sizeOf41 _) Q.out.b ?_)
        exact HR.out _ _ rfl (Chg.refl _ _) HJ.out
      · go_wp2_with fail
        exact HR.out _ _ rfl (Chg.refl _ _) HJ.out
      · go_wp2_with fail
        exact HR.out _ _ rfl (Chg.refl _ _) HJ.out
      · go_wp2_with fail
        refine (isame_any v2 v5 ol w' Q.out.i2 Q.out.i5 HOL.out).mono ?_
        rintro e w10 ⟨rfl, hg10⟩
        have g10 : Grows w' w10 := hg10
        go_wp2_with fail
        exact HR.out _ _ rfl (Chg.ofGrows g10) (HJ.out.grows g10)
      · go_wp2_with fail
        exact HR.out _ _ rfl (Chg.refl _ _) HJ.out
      · obtain ⟨x0, x1, x2, x3, x4, x5, x6, x7, x8, x9, x10, x11, x12⟩ := pat_of Q.out.p1
        go_wp2_with fail
        exact HR.out _ _ rfl (Chg.refl _ _) HJ.out
      · obtain ⟨x0, x1, x2, x3, x4, x5, x6, x7, x8, x9, x10, x11, x12⟩ := pat_of Q.out.p2
        go_wp2_with fail
        exact HR.out _ _ rfl (Chg.refl _ _) HJ.out
      · go_wp2_with fail
        refine (rsame_any y y.ba y.bl y.bc yb w' Q.out.yb Q.out.yb).mono ?_
        rintro e w10 ⟨rfl, hg10⟩
        have g10 : Grows w' w10 := hg10
        go_wp2_with fail
        exact HR.out _ _ rfl (Chg.ofGrows g10) (HJ.out.grows g10)
      · go_wp2_with fail
        exact HR.out _ _ rfl (Chg.refl _ _) HJ.out
      · subst hy
        refine wpList_store_box rfl 41 (.tmp 6) (.tmp 135) rfl (b + 1 + 1) (rdc me n B (.slice a ln cap) M) rfl (by first | exact hn | exact hn.1) (Tryd.sizeOf41 _) (show w'.heap[b + 1 + 1]? = some (.cells zrd TRR (0, 0)) from HJ.out) rfl (rdc_one _ _ _ _ _ _ _) ?_
        intro w10 h10 c10
        have j10 : BoxJ (b + 1 + 1) zrd (rdc me n B (.slice a ln cap) M) TRR true true w10 := h10
        have J10 := Lib.hid (And.intro c10 j10)
        clear h10 c10 j10
        go_wp2_with fail
        exact HR.out undef _ J10.out.1 J10.out.2
      · go_wp2_with fail
        exact HR.out _ _ rfl (Chg.refl _ _) HJ.out
    · intro vals w' hE hJ hn
      have n7 : vals 7 = .bool true := hn 10 7 rfl
      have h9 : w'.heap[b + 1 + 1]? = some (.cells (rdc me n B (.slice a ln cap) M) TRR (0, 0)) := hJ
      have O9 := Lib.hid (And.intro h9 (HT9.out w' hE).rd)
      simp only [n7]
      have CH := Lib.hid (chg_box (tb := tb) (mb := mb) (kv := kv) (grows_trans _ _ _ HGW.out (grows_trans _ _ _ R2G.out (grows_trans _ _ _ G5.out GZ.out.g))) hE (by omega))
      clear hn hE hJ n7 h9
      go_wp2_with fail
      exact bodyPost_ret (results_box2 Tryd.results13 rfl (Tryd.isAgg41 _) (Tryd.sizeOf41 _) O9.out.1) rfl ⟨kv, a, ln, cap, rfl, O9.out.2, CH.out⟩
end Go.Proofs.YtgjieoljfcfacaaDoor
