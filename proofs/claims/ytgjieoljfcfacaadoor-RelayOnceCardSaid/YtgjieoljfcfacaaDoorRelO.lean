/- How a relay hands on. -/
import Derived.Test.YtgjieoljfcfacaaDoorRelN
namespace Go.Proofs.YtgjieoljfcfacaaDoor
open Go.RowKit Go.Sort
set_option maxHeartbeats 4000000
set_option maxRecDepth 100000
/-- Is a packet handed on? -/
def onB (B : BV) (x : PW) : Bool := nextB x && decide (x.hp + 1 ≤ B.b0)
def onP (B : BV) (x : PW) : PW := if onB B x = true then x.hop else pz
/-- To whom. -/
def onL (B : BV) (x : PW) (s : Nat) (f : Int) : List Int := if onB B x = true then listN (offN s f) else []
/-- The result's box is set. -/
theorem on_end {w W : World} {b : Nat} {x y : PW} (hg : Grows w W) (hw : w.heap.size ≤ b) (h : W.heap[b]? = some (.cells y.cells TPK (0, 0))) :
    ∃ Wf, st12 W b x = Wf ∧ Hid (PAt Wf b x ∧ Grows w Wf ∧ ∀ base v l, GOwn ic 1 3 W base v l → GOwn ic 1 3 Wf base v l) := by
  refine ⟨_, rfl, ?_⟩
  show _ ∧ _ ∧ _
  refine ⟨pat_of (st12_box h), ((Chg.ofGrows hg).trans (st12_chg W b x)).toGrows fun j hj e => by omega, fun base v l ho => (st12_chg W b x).own ho fun j hj e => ?_⟩
  obtain ⟨cur, hcur⟩ := gown_ty ho hj
  rw [e, h] at hcur
  injection hcur with hcur
  injection hcur with _ hcur
  exact absurd hcur (by decide)
def OnTo (w : World) (p : PW) (l : List Int) (e : Ending) (w' : World) : Prop := ∃ v, e = .returned (.tuple #[p.val, v]) ∧ Grows w w' ∧ GOwn ic 1 3 w' w.heap.size v l
theorem nonward_r (s : Nat) (f : Int) (x : PW) (w : World) : Calls Tryd.prog 17 #[.pointer none, .int .u64 (s : Int), .int .i64 f, x.val] w (OnTo w pz []) := by
  obtain ⟨c, ec⟩ : ∃ c, w.heap.size = c := ⟨_, rfl⟩
  have hq2 := two_new w (.cells x.cells TPK) (.cells pz.cells TPK)
  have hg : Grows w ((w.alloc (.cells x.cells TPK)).alloc (.cells pz.cells TPK)) := bl_alloc (bl_alloc (Below.refl _ _) _) _
  obtain ⟨W, eW⟩ : ∃ W, (w.alloc (.cells x.cells TPK)).alloc (.cells pz.cells TPK) = W := ⟨_, rfl⟩
  rw [eW, ec] at hq2
  rw [eW] at hg
  have HNX := Lib.hid (fun W' => next_any x W')
  have HG := Lib.hid hg
  have H0 := Lib.hid hq2.2
  obtain ⟨x0, x1, x2, x3, x4, x5, x6, x7, x8, x9, x10, x11, x12⟩ := pat_of hq2.1
  clear hq2 hg
  simp only [PW.val, PW.cells, PW.body] at eW ⊢
  go_enter Tryd.func17, Tryd.ntmps17
  go_wp2_with fail
  refine (HNX.out _).mono ?_
  rintro e w1 ⟨rfl, hg1⟩
  obtain ⟨y, ey⟩ : ∃ y, nextP x = y := ⟨_, rfl⟩
  obtain ⟨q, eq⟩ : ∃ q, nextB x = q := ⟨_, rfl⟩
  rw [ey, eq]
  have H1 := Lib.hid (box_grows H0.out hg1)
  have HG1 := Lib.hid (grows_trans _ _ _ HG.out hg1)
  obtain ⟨d, ed⟩ : ∃ d, w1.heap.size = d := ⟨_, rfl⟩
  obtain ⟨w2, e2⟩ : ∃ w2, w1.alloc (.cells y.cells TPK) = w2 := ⟨_, rfl⟩
  have g2 : Grows w1 w2 := by rw [← e2]; exact bl_alloc (Below.refl _ _) _
  have hb2 : w2.heap[d]? = some (.cells y.cells TPK (0, 0)) := by rw [← e2, ← ed]; exact heap_alloc_new w1 _
  have H2 := Lib.hid (box_grows H1.out g2)
  have HG2 := Lib.hid (grows_trans _ _ _ HG1.out g2)
  simp only [PW.cells, PW.body] at e2
  have E2 := Lib.hid (And.intro e2 ed)
  clear x0 x1 x2 x3 x4 x5 x6 x7 x8 x9 x10 x11 x12 eW hg1 e2 ed g2 hb2
  simp only [PW.val, PW.cells, PW.body]
  go_wp2_with fail
  rw [E2.out.1, E2.out.2]
  refine wp_region_reg (by kernel_rfl) (by kernel_rfl) ?_
  repeat (first | go_big_quiet_step ((fail)) | quiet_step ((fail)))
  refine wpQuiet_nil ?_
  intro _ hcw1
  obtain ⟨pq, hcw2⟩ := hcw1
  subst hcw2
  obtain ⟨w3, e3⟩ : ∃ w3, reg w2 pq = w3 := ⟨_, rfl⟩
  have g3 : Grows w2 w3 := by rw [← e3]; exact below_reg _ _
  rw [e3]
  have h3 := box_grows H2.out g3
  obtain ⟨Wf, ef, HF⟩ := on_end (x := pz) (grows_trans _ _ _ HG2.out g3) (by omega : w.heap.size ≤ c + 1) h3
  obtain ⟨y0, y1, y2, y3, y4, y5, y6, y7, y8, y9, y10, y11, y12⟩ := pat_of h3
  obtain ⟨f0, f1, f2, f3, f4, f5, f6, f7, f8, f9, f10, f11⟩ := pfree_of h3
  simp only [st12, PW.body] at ef
  clear e3 g3 h3
  go_wp2_with fail
  obtain ⟨⟨z0, z1, z2, z3, z4, z5, z6, z7, z8, z9, z10, z11, z12⟩, hgf, -⟩ := HF.out
  refine bodyPost_ret (v := .tuple #[PZ, .slice none 0 0]) (by simp [results, Tryd.results17, go_sem, z0, z1, z2, z3, z4, z5, z6, z7, z8, z9, z10, z11]) rfl ⟨_, rfl, by first | exact hgf | (rw [ef]; exact hgf), World.ownsRow_nil _ _ _ _⟩
theorem ronward_any {w : World} {base rb sb tb mb most : Nat} {kv : Value} {m : List (KW × Value)} {me n : Int} {B : BV} (s : Nat) (f : Int) (x : PW) (hs : s < 18446744073709551616) (h : RelayAt w base rb sb tb kv mb m most me n B) (hT : Laid w) :
    Calls Tryd.prog 17 #[.pointer (some ⟨rb, 0, none⟩), .int .u64 (s : Int), .int .i64 f, x.val] w (OnTo w (onP B x) (onL B x s f)) := by
  obtain ⟨c, ec⟩ : ∃ c, w.heap.size = c := ⟨_, rfl⟩
  have hq2 := two_new w (.cells x.cells TPK) (.cells pz.cells TPK)
  have hg : Grows w ((w.alloc (.cells x.cells TPK)).alloc (.cells pz.cells TPK)) := bl_alloc (bl_alloc (Below.refl _ _) _) _
  obtain ⟨W, eW⟩ : ∃ W, (w.alloc (.cells x.cells TPK)).alloc (.cells pz.cells TPK) = W := ⟨_, rfl⟩
  rw [eW, ec] at hq2
  rw [eW] at hg
  have HNX := Lib.hid (fun W' => next_any x W')
  have HG := Lib.hid hg
  have H0 := Lib.hid hq2.2
  obtain ⟨x0, x1, x2, x3, x4, x5, x6, x7, x8, x9, x10, x11, x12⟩ := pat_of hq2.1
  have HREL := Lib.hid h
  have HT := Lib.hid hT
  have HS := Lib.hid hs
  have hon1 : onB B x = false → onP B x = pz ∧ onL B x s f = [] := fun h => ⟨by unfold onP; rw [h]; rfl, by unfold onL; rw [h]; rfl⟩
  have hon2 : onB B x = true → onP B x = x.hop ∧ onL B x s f = listN (offN s f) := fun h => ⟨by unfold onP; rw [h]; rfl, by unfold onL; rw [h]; rfl⟩
  obtain ⟨oP, eoP⟩ : ∃ oP, onP B x = oP := ⟨_, rfl⟩
  obtain ⟨oL, eoL⟩ : ∃ oL, onL B x s f = oL := ⟨_, rfl⟩
  rw [eoP, eoL] at hon1 hon2 ⊢
  have HO1 := Lib.hid hon1
  have HO2 := Lib.hid hon2
  clear hq2 hg h hT hs hon1 hon2 eoP eoL
  simp only [PW.val, PW.cells, PW.body] at eW ⊢
  go_enter Tryd.func17, Tryd.ntmps17
  go_wp2_with fail
  refine (HNX.out _).mono ?_
  rintro e w1 ⟨rfl, hg1⟩
  obtain ⟨y, ey⟩ : ∃ y, nextP x = y := ⟨_, rfl⟩
  obtain ⟨q, eq⟩ : ∃ q, nextB x = q := ⟨_, rfl⟩
  rw [ey, eq]
  have EY := Lib.hid (And.intro ey eq)
  clear ey eq
  have H1 := Lib.hid (box_grows H0.out hg1)
  have HG1 := Lib.hid (grows_trans _ _ _ HG.out hg1)
  obtain ⟨d, ed⟩ : ∃ d, w1.heap.size = d := ⟨_, rfl⟩
  obtain ⟨w2, e2⟩ : ∃ w2, w1.alloc (.cells y.cells TPK) = w2 := ⟨_, rfl⟩
  have g2 : Grows w1 w2 := by rw [← e2]; exact bl_alloc (Below.refl _ _) _
  have hb2 : w2.heap[d]? = some (.cells y.cells TPK (0, 0)) := by rw [← e2, ← ed]; exact heap_alloc_new w1 _
  have H2 := Lib.hid (box_grows H1.out g2)
  have HG2 := Lib.hid (grows_trans _ _ _ HG1.out g2)
  simp only [PW.cells, PW.body] at e2
  have E2 := Lib.hid (And.intro e2 ed)
  have HR2 := Lib.hid (HREL.out.grows HG2.out)
  have D2 := Lib.hid hb2
  clear x0 x1 x2 x3 x4 x5 x6 x7 x8 x9 x10 x11 x12 eW hg1 e2 ed g2 hb2
  simp only [PW.val, PW.cells, PW.body]
  go_wp2_with fail
  rw [E2.out.1, E2.out.2]
  obtain ⟨r0, r1, r2, r3, r4, r5, r6, r7, r8, r9, r10, r11, r12, r13, r14, r15, r16, zr⟩ := HR2.out.cells
  cases q with
  | false =>
    have HON := Lib.hid (HO1.out (by unfold onB; rw [EY.out.2]; rfl))
    refine wp_region_reg (by kernel_rfl) (by kernel_rfl) ?_
    repeat (first | go_big_quiet_step ((fail)) | quiet_step ((fail)))
    refine wpQuiet_nil ?_
    intro _ hcw1
    obtain ⟨pq, hcw2⟩ := hcw1
    subst hcw2
    obtain ⟨w3, e3⟩ : ∃ w3, reg w2 pq = w3 := ⟨_, rfl⟩
    have g3 : Grows w2 w3 := by rw [← e3]; exact below_reg _ _
    rw [e3]
    have h3 := box_grows H2.out g3
    obtain ⟨Wf, ef, HF⟩ := on_end (x := pz) (grows_trans _ _ _ HG2.out g3) (by omega : w.heap.size ≤ c + 1) h3
    obtain ⟨y0, y1, y2, y3, y4, y5, y6, y7, y8, y9, y10, y11, y12⟩ := pat_of h3
    obtain ⟨f0, f1, f2, f3, f4, f5, f6, f7, f8, f9, f10, f11⟩ := pfree_of h3
    simp only [st12, PW.body] at ef
    clear e3 g3 h3
    go_wp2_with fail
    obtain ⟨⟨z0, z1, z2, z3, z4, z5, z6, z7, z8, z9, z10, z11, z12⟩, hgf, -⟩ := HF.out
    refine bodyPost_ret (v := .tuple #[PZ, .slice none 0 0]) (by simp [results, Tryd.results17, go_sem, z0, z1, z2, z3, z4, z5, z6, z7, z8, z9, z10, z11]) rfl ⟨_, by rw [HON.out.1], by first | exact hgf | (rw [ef]; exact hgf), by rw [HON.out.2]; exact World.ownsRow_nil _ _ _ _⟩
  | true =>
    have hy : y = x.hop := by rw [← EY.out.1]; unfold nextP; rw [if_pos EY.out.2]
    have hyp : y.hp = x.hp + 1 := by rw [hy]
    by_cases hle : x.hp + 1 ≤ B.b0
    · have HON := Lib.hid (HO2.out (by unfold onB; rw [EY.out.2]; simp [hle]))
      have HY := Lib.hid hy
      have l1 : ¬ B.b0 < y.hp := by omega
      have l2 : decide (B.b0 < y.hp) = false := decide_eq_false l1
      have l3 : y.hp ≤ B.b0 := by omega
      clear hy hyp hle
      obtain ⟨y0, y1, y2, y3, y4, y5, y6, y7, y8, y9, y10, y11, y12⟩ := pat_of D2.out
      refine wp_region_reg (by kernel_rfl) (by kernel_rfl) ?_
      repeat (first | go_big_quiet_step ((fail)) | quiet_step ((fail)))
      refine wpQuiet_nil ?_
      intro _ hcw1
      obtain ⟨pq, hcw2⟩ := hcw1
      subst hcw2
      obtain ⟨w3, e3⟩ : ∃ w3, reg w2 pq = w3 := ⟨_, rfl⟩
      have g3 : Grows w2 w3 := by rw [← e3]; exact below_reg _ _
      rw [e3]
      have D3 := Lib.hid (box_grows D2.out g3)
      have H3 := Lib.hid (box_grows H2.out g3)
      have HG3 := Lib.hid (grows_trans _ _ _ HG2.out g3)
      have HDC := Lib.hid (show d ≠ c + 1 by have := box_lt H1.out; have := E2.out.2; omega)
      clear e3 g3 l1 l2 l3 r0 r1 r2 r3 r4 r5 r6 r7 r8 r9 r10 r11 r12 r13 r14 r15 r16 zr y0 y1 y2 y3 y4 y5 y6 y7 y8 y9 y10 y11 y12
      go_wp2_with fail
      have KS := Lib.hid (fun w' (hg : Chg (fun j => j = c + 1) w3 w') => show w'.cell? ⟨d, 0, none⟩ = some (.int .i64 y.kd) ∧ w'.cell? ⟨d, 1, none⟩ = some (.int .i64 y.k.t) ∧ w'.cell? ⟨d, 2, none⟩ = some (.int .i64 y.k.f) ∧ w'.cell? ⟨d, 3, none⟩ = some (.int .u32 y.k.s) ∧ w'.cell? ⟨d, 4, none⟩ = some (.int .i64 y.hp) ∧ w'.cell? ⟨d, 5, none⟩ = some (.int .i64 y.no) ∧ w'.cell? ⟨d, 6, none⟩ = some (.int .i64 y.dt) ∧ w'.cell? ⟨d, 7, none⟩ = some (.int .i64 y.ix) ∧ w'.cell? ⟨d, 8, none⟩ = some (.int .i64 y.tt) ∧ w'.cell? ⟨d, 9, none⟩ = some (.int .i64 y.st) ∧ w'.cell? ⟨d, 10, none⟩ = some (.int .i64 y.vl) ∧ w'.cell? ⟨d, 11, none⟩ = some (.slice y.ba y.bl y.bc) from by
        have h := box_chg D3.out hg HDC.out
        exact ⟨(cell_in h 0 rfl).1, (cell_in h 1 rfl).1, (cell_in h 2 rfl).1, (cell_in h 3 rfl).1, (cell_in h 4 rfl).1, (cell_in h 5 rfl).1, (cell_in h 6 rfl).1, (cell_in h 7 rfl).1, (cell_in h 8 rfl).1, (cell_in h 9 rfl).1, (cell_in h 10 rfl).1, (cell_in h 11 rfl).1⟩)
      go_region_held3 (fun w' => w'.cell? ⟨d, 0, none⟩ = some (.int .i64 y.kd) ∧ w'.cell? ⟨d, 1, none⟩ = some (.int .i64 y.k.t) ∧ w'.cell? ⟨d, 2, none⟩ = some (.int .i64 y.k.f) ∧ w'.cell? ⟨d, 3, none⟩ = some (.int .u32 y.k.s) ∧ w'.cell? ⟨d, 4, none⟩ = some (.int .i64 y.hp) ∧ w'.cell? ⟨d, 5, none⟩ = some (.int .i64 y.no) ∧ w'.cell? ⟨d, 6, none⟩ = some (.int .i64 y.dt) ∧ w'.cell? ⟨d, 7, none⟩ = some (.int .i64 y.ix) ∧ w'.cell? ⟨d, 8, none⟩ = some (.int .i64 y.tt) ∧ w'.cell? ⟨d, 9, none⟩ = some (.int .i64 y.st) ∧ w'.cell? ⟨d, 10, none⟩ = some (.int .i64 y.vl) ∧ w'.cell? ⟨d, 11, none⟩ = some (.slice y.ba y.bl y.bc))
        ((first | exact KS.out _ C7.out | exact KS.out _ CF.out | (rw [ef]; exact KS.out _ CF.out) | exact KS.out _ (Chg.refl _ _) | exact KS.out _ (Chg.drew (Chg.refl _ _)) | exact KS.out _ (Chg.alloc (Chg.refl _ _) _) | exact KS.out _ (Chg.drew (Chg.alloc (Chg.refl _ _) _))))
        ((first
          | (go_at_call 43; refine (nwithout_any s _ f _ HS.out (by simp [go_sem])).mono ?_; rintro e w6 ⟨rfl, rfl⟩)
          | (go_at_call 42; refine (nlist_any (offN s f) (offN_lt HS.out f) _ (HT.out.grows (grows_trans _ _ _ HG3.out (by show Below w3.heap.size w3 _; (repeat (first | with_reducible exact Below.refl _ _ | with_reducible refine bl_alloc ?_ _ | ((with_reducible refine bl_set ?_ ?_ _); rotate_left; (first | exact Nat.le_refl _ | exact Nat.le_succ_of_le (Nat.le_refl _) | (simp only []; omega))) | with_reducible refine bl_drewN ?_ _ | with_reducible refine bl_drew ?_ | with_reducible refine bl_reg ?_ _)))))).mono ?_; rintro e w7 ⟨v7, rfl, hg7, ho7⟩; have g37 : Grows w3 w7 := grows_trans _ _ _ (by show Below w3.heap.size w3 _; (repeat (first | with_reducible exact Below.refl _ _ | with_reducible refine bl_alloc ?_ _ | ((with_reducible refine bl_set ?_ ?_ _); rotate_left; (first | exact Nat.le_refl _ | exact Nat.le_succ_of_le (Nat.le_refl _) | (simp only []; omega))) | with_reducible refine bl_drewN ?_ _ | with_reducible refine bl_drew ?_ | with_reducible refine bl_reg ?_ _))) hg7; have o7 := row_base ho7 (show w.heap.size ≤ _ from Nat.le_trans HG3.out.size (by simp)); obtain ⟨a7, c7, rfl⟩ := GOwn.len kindInt.len o7 rfl; obtain ⟨f0, f1, f2, f3, f4, f5, f6, f7, f8, f9, f10, f11⟩ := pfree_of (box_grows H3.out g37); obtain ⟨u0, u1, u2, u3, u4, u5, u6, u7, u8, u9, u10, u11, u12⟩ := pat_of (box_grows H3.out g37); have C7 := Lib.hid (show Chg (fun j => j = c + 1) w3 w7 from Chg.ofGrows g37); obtain ⟨Wf, ef, HF⟩ := on_end (x := y) (grows_trans _ _ _ HG3.out g37) (by omega : w.heap.size ≤ c + 1) (box_grows H3.out g37); have CF := Lib.hid (show Chg (fun j => j = c + 1) w3 Wf from ef ▸ C7.out.trans (st12_chg w7 (c + 1) y)); have O7 := Lib.hid o7; simp only [st12, PW.body] at ef; clear hg7 ho7 g37 o7)))
      all_goals (
        go_wp2_with fail
        obtain ⟨⟨z0, z1, z2, z3, z4, z5, z6, z7, z8, z9, z10, z11, z12⟩, hgf, hof⟩ := HF.out
        refine bodyPost_ret (v := .tuple #[y.val, .slice a7 (listN (offN s f)).length c7]) (by simp [results, Tryd.results17, go_sem, ef, z0, z1, z2, z3, z4, z5, z6, z7, z8, z9, z10, z11]) rfl ⟨_, by rw [HON.out.1, HY.out], by first | exact hgf | (rw [ef]; exact hgf), by rw [HON.out.2]; first | exact hof _ _ _ O7.out | (rw [ef]; exact hof _ _ _ O7.out)⟩)
    · have HON := Lib.hid (HO1.out (by unfold onB; rw [EY.out.2]; simp [hle]))
      have l1 : B.b0 < y.hp := by omega
      have l2 : decide (B.b0 < y.hp) = true := decide_eq_true l1
      clear hy hyp hle
      obtain ⟨y0, y1, y2, y3, y4, y5, y6, y7, y8, y9, y10, y11, y12⟩ := pat_of D2.out
      refine wp_region_reg (by kernel_rfl) (by kernel_rfl) ?_
      repeat (first | go_big_quiet_step ((fail)) | quiet_step ((fail)))
      refine wpQuiet_nil ?_
      intro _ hcw1
      obtain ⟨pq, hcw2⟩ := hcw1
      subst hcw2
      obtain ⟨w3, e3⟩ : ∃ w3, reg w2 pq = w3 := ⟨_, rfl⟩
      have g3 : Grows w2 w3 := by rw [← e3]; exact below_reg _ _
      rw [e3]
      have h3 := box_grows H2.out g3
      obtain ⟨Wf, ef, HF⟩ := on_end (x := pz) (grows_trans _ _ _ HG2.out g3) (by omega : w.heap.size ≤ c + 1) h3
      clear y0 y1 y2 y3 y4 y5 y6 y7 y8 y9 y10 y11 y12
      obtain ⟨y0, y1, y2, y3, y4, y5, y6, y7, y8, y9, y10, y11, y12⟩ := pat_of h3
      obtain ⟨f0, f1, f2, f3, f4, f5, f6, f7, f8, f9, f10, f11⟩ := pfree_of h3
      simp only [st12, PW.body] at ef
      clear e3 g3 h3
      go_wp2_with fail
      obtain ⟨⟨z0, z1, z2, z3, z4, z5, z6, z7, z8, z9, z10, z11, z12⟩, hgf, -⟩ := HF.out
      refine bodyPost_ret (v := .tuple #[PZ, .slice none 0 0]) (by simp [results, Tryd.results17, go_sem, z0, z1, z2, z3, z4, z5, z6, z7, z8, z9, z10, z11]) rfl ⟨_, by rw [HON.out.1], by first | exact hgf | (rw [ef]; exact hgf), by rw [HON.out.2]; exact World.ownsRow_nil _ _ _ _⟩
end Go.Proofs.YtgjieoljfcfacaaDoor
