/- One call, of a roll and of the document's notes: Drop. -/
import Derived.Test.YtgjieoljfcfacaaRollV
namespace Go.Proofs.Ytgjieoljfcfacaa
open Go.RowKit Go.Sort Go.Maps
set_option maxHeartbeats 4000000
set_option maxRecDepth 100000
theorem one_drop {w : World} {B b m M : Nat} {D : DataW Unit} {v : Value} {l : NL} (q no f : Int) (hk : q.tmod 5 = 4) (hno : (Lit.int .i64 no).wf = true) (h : RollAt w b m D M) (hr : RollR D l) (ho : NOwn w B v l) (hm : l.length ≤ 1000) (hBw : B ≤ w.heap.size) :
    Calls Try.prog 7 #[.pointer (some ⟨b, 0, none⟩), nval v M, .agg #[.int .u8 q, .int .i64 no, .int .i64 f]] w (OneTo w B b m M l) := by
  obtain ⟨n, en⟩ : ∃ n, l.length = n := ⟨_, rfl⟩
  obtain ⟨c, ec⟩ : ∃ c, w.heap.size = c := ⟨_, rfl⟩
  obtain ⟨a, cap, rfl⟩ := NOwn.len ho en
  have hq3 := three_new w (.cells #[.slice a n cap, .int .i64 (M : Int)] TRD) (.cells #[.int .u8 q, .int .i64 no, .int .i64 f] TRA) (.cells #[.slice none 0 0, .int .i64 0] TRD)
  have hg : Grows w (((w.alloc (.cells #[.slice a n cap, .int .i64 (M : Int)] TRD)).alloc (.cells #[.int .u8 q, .int .i64 no, .int .i64 f] TRA)).alloc (.cells #[.slice none 0 0, .int .i64 0] TRD)) := bl_alloc (bl_alloc (bl_alloc (Below.refl _ _) _) _) _
  obtain ⟨W, eW⟩ : ∃ W, ((w.alloc (.cells #[.slice a n cap, .int .i64 (M : Int)] TRD)).alloc (.cells #[.int .u8 q, .int .i64 no, .int .i64 f] TRA)).alloc (.cells #[.slice none 0 0, .int .i64 0] TRD) = W := ⟨_, rfl⟩
  rw [eW, ec] at hq3
  rw [eW] at hg
  have hb1 : b < c := by rw [← ec]; exact cell_lt h.c0
  have hm1 : m < c := by rw [← ec]; exact h.own.lt
  have hos : OS w W B b m c M D (.slice a n cap) l q no f := ⟨h.grows hg, own_grows ho hg, hq3.1, hq3.2.1, hq3.2.2, grownBy_of hg, hb1, hm1⟩
  have hsz := h.size hr
  have hnl : (numsN l).length ≤ 1000 := Nat.le_trans (nums_len l) hm
  have hw6 : -9223372036854775808 ≤ no ∧ no ≤ 9223372036854775807 := wf_num hno
  have hke : keepN l (outF (-9223372036854775808) no) = keepN l (fun x => decide (no ≤ x)) := keepN_ext fun x hx => by
    have h1 := (wf_num (h.wfn hr hx)).1
    have h2 : ¬ x < -9223372036854775808 := by omega
    unfold outF
    simp [h2]
  have HDROP := Lib.hid (ndrop_any (M := M) (-9223372036854775808) no (own_grows ho hg) hm)
  rw [hke] at HDROP
  have HDRC := Lib.hid (fun W' (hg : Grows W W') => drop_any W' no (hos.roll.grows hg) hr hm)
  obtain ⟨l', el⟩ : ∃ l', keepN l (fun x => decide (no ≤ x)) = l' := ⟨_, rfl⟩
  have hl' : l'.length ≤ l.length := by rw [← el]; exact keep_len _ _
  have hnk : (numsN l').length ≤ (numsN l).length := by rw [← el]; exact nums_keep_len _ _
  rw [el] at HDROP HDRC
  obtain ⟨z, ez⟩ : ∃ z, (numsN l).length = z := ⟨_, rfl⟩
  obtain ⟨y, ey⟩ : ∃ y, (numsN l').length = y := ⟨_, rfl⟩
  have hsw : IntKind.i64.wrap ((z : Int) - (y : Int)) = (z : Int) - (y : Int) := by rw [wrapEq]; exact sub_wrap (by rw [← ez, ← ey]; exact hnk) (by rw [← ez]; exact hnl)
  have hna : ∀ W', W.grownBy W' (some m) → Calls Try.prog 18 #[nval (.slice a n cap) M] W' (fun e w' => ∃ a c, e = .returned (.slice a z c) ∧ Grows W' w') := fun W' hgw => by
    refine (nnums_any (M := M) (own_map (f := nc) hos.own hos.roll.own hgw) hm).mono ?_
    rintro e w' ⟨a', c', rfl, h1, -⟩
    rw [ez]
    exact ⟨a', c', rfl, h1⟩
  have HNAA := Lib.hid hna
  have hdr : ∀ W', Grows W W' → Calls Try.prog 13 #[.pointer (some ⟨b, 0, none⟩), .int .i64 no] W' (fun e w' => e = .returned (.int .i64 ((z : Int) - (y : Int))) ∧ ∃ D', RollAt w' b m D' M ∧ RollR D' l' ∧ W'.grownBy w' (some m)) := fun W' hg => by
    have := HDRC.out W' hg
    unfold Dropped at this
    rw [ez, ey] at this
    exact this
  have HDRR := Lib.hid hdr
  have HBW := Lib.hid (Nat.le_trans hBw hg.size)
  have HL := Lib.hid (Nat.le_trans hl' (Nat.le_succ _))
  have HLM := Lib.hid (Nat.le_trans hl' hm)
  have H0 := Lib.hid hos
  have HR := Lib.hid hr
  have EC := Lib.hid ec
  have EN := Lib.hid en
  have HG := Lib.hid hg
  obtain ⟨⟨s0, s1, z0⟩, ⟨t0, t1, t2, z1⟩, c0, c0f, c1, c1f, z2⟩ := hos.cells
  clear h hr ho hm hBw hno en hq3 hg hb1 hm1 hos hsz hnl hke hl' hnk hna hdr hw6 HDRC ez
  simp only [nval]
  go_enter Try.func7, Try.ntmps7
  go_wp2_with fail
  refine (HDROP.out).mono ?_
  rintro e w1 ⟨a1, n1, c1', rfl, hg1, ho1⟩
  obtain ⟨d, ed⟩ : ∃ d, w1.heap.size = d := ⟨_, rfl⟩
  have g2 : Grows w1 (w1.alloc (.cells #[.slice a1 n1 c1', .int .i64 (M : Int)] TRD)) := bl_alloc (Below.refl _ _) _
  have hd2 := heap_alloc_new w1 (.cells #[.slice a1 n1 c1', .int .i64 (M : Int)] TRD)
  obtain ⟨w2, e2⟩ : ∃ w2, w1.alloc (.cells #[.slice a1 n1 c1', .int .i64 (M : Int)] TRD) = w2 := ⟨_, rfl⟩
  rw [e2] at g2
  rw [e2, ed] at hd2
  have hg12 := grows_trans _ _ _ hg1 g2
  have H2 := Lib.hid (H0.out.grows hg12)
  have O2 := Lib.hid (own_grows (row_base ho1 HBW.out) g2)
  have D2 := Lib.hid hd2
  have HDR := Lib.hid (fun W' (hg : Grows w2 W') => HDRR.out W' (grows_trans _ _ _ hg12 hg))
  have HNA := Lib.hid (fun W' (hg : w2.grownBy W' (some m)) => HNAA.out W' (grown_trans (grownBy_of hg12) hg))
  have hne : ∀ W', w2.grownBy W' (some m) → Calls Try.prog 18 #[nval (.slice a1 n1 c1') M] W' (fun e w' => ∃ a c, e = .returned (.slice a y c) ∧ Grows W' w') := fun W' hgw => by
    refine (nnums_any (M := M) (own_map (f := nc) O2.out H2.out.roll.own hgw) HLM.out).mono ?_
    rintro e w' ⟨a', c', rfl, h1, -⟩
    rw [ey]
    exact ⟨a', c', rfl, h1⟩
  have HNE := Lib.hid hne
  have HDC := Lib.hid (show d ≠ c + 1 + 1 by have := box_lt (box_grows H0.out.h2 hg1); omega)
  have E2 := Lib.hid (And.intro e2 ed)
  clear s0 s1 z0 t0 t1 t2 z1 c0 c0f c1 c1f z2 ho1 hd2 e2 ed hg1 g2 hg12 hne HDRR HNAA
  simp only [nval]
  go_wp2_with fail
  rw [E2.out.1, E2.out.2]
  clear E2
  have KS := Lib.hid (fun W' (hg : Chg (fun j => j = m ∨ j = c + 1 + 1) w2 W') => show W'.cell? ⟨d, 0, none⟩ = some (.slice a1 n1 c1') ∧ W'.cell? ⟨d, 1, none⟩ = some (.int .i64 (M : Int)) ∧ W'.cell? ⟨c, 0, none⟩ = some (.slice a n cap) ∧ W'.cell? ⟨c, 1, none⟩ = some (.int .i64 (M : Int)) ∧ W'.cell? ⟨c + 1, 1, none⟩ = some (.int .i64 no) from
    ⟨(cell_in (H2.out.stay D2.out HDC.out hg) 0 rfl).1, (cell_in (H2.out.stay D2.out HDC.out hg) 1 rfl).1, (cell_in (H2.out.stay H2.out.h0 (by omega) hg) 0 rfl).1, (cell_in (H2.out.stay H2.out.h0 (by omega) hg) 1 rfl).1, (cell_in (H2.out.stay H2.out.h1 (by omega) hg) 1 rfl).1⟩)
  obtain ⟨-, -, c0, c0f, c1, c1f, z2⟩ := H2.out.cells
  go_region_held3 (fun w' => w'.cell? ⟨d, 0, none⟩ = some (.slice a1 n1 c1') ∧ w'.cell? ⟨d, 1, none⟩ = some (.int .i64 (M : Int)) ∧ w'.cell? ⟨c, 0, none⟩ = some (.slice a n cap) ∧ w'.cell? ⟨c, 1, none⟩ = some (.int .i64 (M : Int)) ∧ w'.cell? ⟨c + 1, 1, none⟩ = some (.int .i64 no))
    ((first | exact KS.out _ (Chg.setCell (Chg.setCell C7.out _ (.inr (.inr rfl))) _ (.inr (.inr rfl))) | exact KS.out _ (Chg.setCell (Chg.setCell C8.out _ (.inr (.inr rfl))) _ (.inr (.inr rfl))) | exact KS.out _ (Chg.setCell (Chg.setCell C9.out _ (.inr (.inr rfl))) _ (.inr (.inr rfl))) | (rw [← ef]; first | exact KS.out _ (Chg.setCell (Chg.setCell C7.out _ (.inr (.inr rfl))) _ (.inr (.inr rfl))) | exact KS.out _ (Chg.setCell (Chg.setCell C8.out _ (.inr (.inr rfl))) _ (.inr (.inr rfl))) | exact KS.out _ (Chg.setCell (Chg.setCell C9.out _ (.inr (.inr rfl))) _ (.inr (.inr rfl)))) | exact KS.out _ C7.out | exact KS.out _ C8.out | exact KS.out _ C9.out | exact KS.out _ (Chg.refl _ _) | exact KS.out _ (Chg.drew (Chg.refl _ _))))
    ((first
      | (go_at_call 13; refine (HDR.out _ (by first | exact G9.out | exact G8.out | exact bl_drew (Below.refl _ _))).mono ?_; rintro e w7 ⟨rfl, D7, hr7, hrr7, hg6⟩; have R7 := Lib.hid hrr7; (first
          | (have K7 := Lib.hid (grown_trans K8.out hg6); have H7 := Lib.hid (H8.out.next hg6 hr7); have n7 : NOwn w7 B (.slice a1 n1 c1') (l') := own_map (f := nc) N8.out H8.out.roll.own hg6; have C7 := Lib.hid (C8.out.trans (chg_of hg6)))
          | (have K7 := Lib.hid (grown_trans K9.out hg6); have H7 := Lib.hid (H9.out.next hg6 hr7); have n7 : NOwn w7 B (.slice a1 n1 c1') (l') := own_map (f := nc) N9.out H9.out.roll.own hg6; have C7 := Lib.hid (C9.out.trans (chg_of hg6)))
          | (have K7 := Lib.hid (grown_trans (grown_drew w2 (some m)) hg6); have H7 := Lib.hid (H2.out.next K7.out hr7); have n7 : NOwn w7 B (.slice a1 n1 c1') (l') := own_map (f := nc) O2.out H2.out.roll.own K7.out; have C7 := Lib.hid (chg_of (c := c + 1 + 1) K7.out))); have N7 := Lib.hid n7; clear n7 hg6 hr7 hrr7; clear c0 c0f c1 c1f z2; obtain ⟨-, -, c0, c0f, c1, c1f, z2⟩ := H7.out.cells; obtain ⟨Wf, ef, HF⟩ := OS.fin EC.out H7.out N7.out)
      | (go_at_call 18; with_reducible show Calls _ _ #[Value.agg #[.slice a n cap, .int .i64 (M : Int)]] _ _; refine (HNA.out _ (by first | exact K7.out | exact K9.out | exact K8.out | exact grown_drew _ _)).mono ?_; rintro e w8 ⟨a8, c8, rfl, hg⟩; (first
          | (have K8 := Lib.hid (grown_trans K7.out (grownBy_of hg)); have H8 := Lib.hid (H7.out.grows hg); have N8 := Lib.hid (own_grows N7.out hg); have C8 := Lib.hid (C7.out.trans (Chg.ofGrows hg)))
          | (have K8 := Lib.hid (grown_trans K9.out (grownBy_of hg)); have H8 := Lib.hid (H9.out.grows hg); have N8 := Lib.hid (own_grows N9.out hg); have C8 := Lib.hid (C9.out.trans (Chg.ofGrows hg)); try have G8 := Lib.hid (grows_trans _ _ _ G9.out hg))
          | (have G8 := Lib.hid (grows_trans _ _ _ (bl_drew (Below.refl _ _) : Grows w2 w2.drew) hg); have K8 := Lib.hid (show w2.grownBy w8 (some m) from grownBy_of G8.out); have H8 := Lib.hid (H2.out.grows G8.out); have N8 := Lib.hid (own_grows O2.out G8.out); have C8 := Lib.hid (show Chg (fun j => j = m ∨ j = c + 1 + 1) w2 w8 from Chg.ofGrows G8.out))); clear hg; clear c0 c0f c1 c1f z2; obtain ⟨-, -, c0, c0f, c1, c1f, z2⟩ := H8.out.cells; obtain ⟨Wf, ef, HF⟩ := OS.fin EC.out H8.out N8.out)
      | (go_at_call 18; with_reducible show Calls _ _ #[Value.agg #[.slice a1 n1 c1', .int .i64 (M : Int)]] _ _; refine (HNE.out _ (by first | exact K7.out | exact K9.out | exact K8.out | exact grown_drew _ _)).mono ?_; rintro e w9 ⟨a9, c9, rfl, hg⟩; (first
          | (have K9 := Lib.hid (grown_trans K7.out (grownBy_of hg)); have H9 := Lib.hid (H7.out.grows hg); have N9 := Lib.hid (own_grows N7.out hg); have C9 := Lib.hid (C7.out.trans (Chg.ofGrows hg)))
          | (have K9 := Lib.hid (grown_trans K8.out (grownBy_of hg)); have H9 := Lib.hid (H8.out.grows hg); have N9 := Lib.hid (own_grows N8.out hg); have C9 := Lib.hid (C8.out.trans (Chg.ofGrows hg)); try have G9 := Lib.hid (grows_trans _ _ _ G8.out hg))
          | (have G9 := Lib.hid (grows_trans _ _ _ (bl_drew (Below.refl _ _) : Grows w2 w2.drew) hg); have K9 := Lib.hid (show w2.grownBy w9 (some m) from grownBy_of G9.out); have H9 := Lib.hid (H2.out.grows G9.out); have N9 := Lib.hid (own_grows O2.out G9.out); have C9 := Lib.hid (show Chg (fun j => j = m ∨ j = c + 1 + 1) w2 w9 from Chg.ofGrows G9.out))); clear hg; clear c0 c0f c1 c1f z2; obtain ⟨-, -, c0, c0f, c1, c1f, z2⟩ := H9.out.cells; obtain ⟨Wf, ef, HF⟩ := OS.fin EC.out H9.out N9.out)))
  all_goals (
    go_wp2_with fail
    obtain ⟨q0, q1, r9, o9, g9⟩ := HF.out
    exact bodyPost_ret (v := .tuple #[nval (.slice a1 n1 c1') M, .bool true]) (by simp [results, Try.results7, go_sem, ef, q0, q1]) rfl ⟨_, a1, n1, c1', _, rfl, by first | exact r9 | (rw [ef]; exact r9), R7.out, by first | exact o9 | (rw [ef]; exact o9), HL.out, by first | exact g9 | (rw [ef]; exact g9)⟩)
end Go.Proofs.Ytgjieoljfcfacaa
