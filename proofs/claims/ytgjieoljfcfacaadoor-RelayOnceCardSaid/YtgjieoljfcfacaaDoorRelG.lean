/- The document's relay: Take, Onward. -/
import Derived.Test.YtgjieoljfcfacaaDoorRelF
namespace Go.Proofs.YtgjieoljfcfacaaDoor
open Go.RowKit Go.Sort
set_option maxHeartbeats 4000000
set_option maxRecDepth 100000
theorem three_box (w : World) (A B C : Obj) : (((w.alloc A).alloc B).alloc C).heap[w.heap.size]? = some A ∧ (((w.alloc A).alloc B).alloc C).heap[w.heap.size + 1]? = some B ∧ (((w.alloc A).alloc B).alloc C).heap[w.heap.size + 1 + 1]? = some C := by
  have h2 := two_new w A B
  have hg : Grows ((w.alloc A).alloc B) (((w.alloc A).alloc B).alloc C) := bl_alloc (Below.refl _ _) _
  have h3 := heap_alloc_new ((w.alloc A).alloc B) C
  rw [show ((w.alloc A).alloc B).heap.size = w.heap.size + 1 + 1 by simp] at h3
  exact ⟨box_grows h2.1 hg, box_grows h2.2 hg, h3⟩
/-- The rows behind a Take. -/
def takeL (l : List DR) (M : Nat) (me n : Int) (B : BV) (tol now : Int) (x : PW) : List DR := if rchk (l.map tv) M me n B tol now x = 0 then insT l x.k (tillI B x.k.t) else l
theorem dtake_any {w : World} {base M : Nat} {v : Value} {l : List DR} {me n : Int} {B : BV} (tol now : Int) (x : PW) (h : ROwn w base v l) (hm : l.length ≤ 10000) (hb : base ≤ w.heap.size) (hU : UOk B.b0 B.b1 B.b3 B.b10) :
    Calls Tryd.prog 30 #[rdv me n B v M, .int .i64 tol, .int .i64 now, x.val] w (DTo w base (takeL l M me n B tol now x) M me n B fun t => .tuple #[t, .int .i64 (rchk (l.map tv) M me n B tol now x)]) := by
  obtain ⟨ln, eln⟩ : ∃ ln, l.length = ln := ⟨_, rfl⟩
  obtain ⟨a, cap, rfl⟩ := ROwn.len h eln
  obtain ⟨b, ep⟩ : ∃ b, w.heap.size = b := ⟨_, rfl⟩
  have hq2 := three_box w (.cells (rdc me n B (.slice a ln cap) M) TRR) (.cells x.cells TPK) (.cells zrd TRR)
  obtain ⟨W, eW⟩ : ∃ W, ((w.alloc (.cells (rdc me n B (.slice a ln cap) M) TRR)).alloc (.cells x.cells TPK)).alloc (.cells zrd TRR) = W := ⟨_, rfl⟩
  have hg : Grows w W := by rw [← eW]; exact bl_alloc (bl_alloc (bl_alloc (Below.refl _ _) _) _) _
  rw [eW, ep] at hq2
  have HCK := Lib.hid (fun W' (hg : Grows w W') => dcheck_any (me := me) (n := n) (B := B) (M := M) tol now x (own_grows h hg) hm (Nat.le_trans hb hg.size))
  have HUN := Lib.hid (fun W' => runtil_any B.b0 B.b1 B.b2 B.b3 B.b4 B.b5 B.b6 B.b7 B.b8 B.b9 B.b10 B.b11 B.b12 B.b13 x.k.t W' hU)
  have HPU := Lib.hid (fun W' (hg : Grows w W') => rput_any (M := M) x.k (tillI B x.k.t) (own_grows h hg) hm (Nat.le_trans hb hg.size))
  have hti : behI x.k.t (lateI B.b0 B.b3 B.b1 B.b0 B.b10) = tillI B x.k.t := rfl
  rw [hti] at HUN
  have hre : rchk (l.map tv) M me n B tol now x = 0 → putE (l.map tv) M x.k = 0 := fun h0 => by
    unfold rchk at h0
    split at h0
    · cases h0
    · split at h0
      · cases h0
      · split at h0
        · rename_i hne; exact absurd h0 hne
        · exact h0
  have HO := Lib.hid h
  have HG := Lib.hid hg
  have HQ := Lib.hid hq2
  have EP := Lib.hid ep
  have ELN := Lib.hid eln
  obtain ⟨er, eer⟩ : ∃ er, rchk (l.map tv) M me n B tol now x = er := ⟨_, rfl⟩
  obtain ⟨tl, etl⟩ : ∃ tl, takeL l M me n B tol now x = tl := ⟨_, rfl⟩
  obtain ⟨ti, eti⟩ : ∃ ti, tillI B x.k.t = ti := ⟨_, rfl⟩
  have hml : (er = 0 → tl = putR l M x.k ti) ∧ (er ≠ 0 → tl = l) := by
    refine ⟨fun h0 => ?_, fun h0 => ?_⟩
    · rw [← etl]; unfold takeL putR; rw [eer, if_pos h0, if_pos (hre (by rw [eer]; exact h0)), eti]
    · rw [← etl]; unfold takeL; rw [eer, if_neg h0]
  have HML := Lib.hid hml
  rw [eer] at HCK
  rw [eti] at HUN HPU
  rw [eer, etl]
  clear h hg hq2 hm hb eln hU hti hre hml eer etl eti
  simp only [rdv, rdc, PW.val, PW.cells, PW.body] at eW HCK ⊢
  go_enter Tryd.func30, Tryd.ntmps30
  go_wp2_with (first | (refine wpList_load_box rfl 41 (.tmp 4) rfl b (rdc me n B (.slice a ln cap) M) rfl (Tryd.isAgg41 _) (Tryd.sizeOf41 _) HQ.out.1 ?_) | (refine wpList_load_box rfl 32 (.tmp 7) rfl (b + 1) x.cells rfl (Tryd.isAgg32 _) (Tryd.sizeOf32 _) HQ.out.2.1 ?_))
  refine (HCK.out _ HG.out).mono ?_
  rintro e w1 ⟨rfl, hg1⟩
  have Q1 := Lib.hid (And.intro (box_grows HQ.out.1 hg1) (And.intro (box_grows HQ.out.2.1 hg1) (box_grows HQ.out.2.2 hg1)))
  have G1 := Lib.hid (grows_trans _ _ _ HG.out hg1)
  clear hg1 eW
  by_cases h0 : er = 0
  · have e1 : (er != 0) = false := by simp [h0]
    have e2 : (er == 0) = true := by simp [h0]
    have HL := Lib.hid (HML.out.1 h0)
    subst h0
    obtain ⟨d0, d1, d2, d3, d4, d5, d6, d7, d8, d9, d10, d11, d12, d13, d14, d15, d16, d17, zd⟩ := dat_of Q1.out.1
    obtain ⟨x0, x1, x2, x3, x4, x5, x6, x7, x8, x9, x10, x11, x12⟩ := pat_of Q1.out.2.1
    go_wp2_with fail
    have mixed : Tryd.prog.follows .mixedOrders = true := by kernel_rfl
    have W1 := Lib.hid (trivial : True)
    go_region_law (first
      | (refine step_call (by rfl) 11 _ _ rfl _ ?hv Tryd.f11 Tryd.func11 (by kernel_rfl) (by kernel_rfl) (HUN.out _) ?_
         case hv => simp [Act.eval]
         rintro e w6 ⟨rfl, hg6⟩
         have g6 : Grows w1 w6 := grows_trans _ _ _ (bl_drew (Below.refl _ _)) hg6
         have Q6 := Lib.hid (And.intro (box_grows Q1.out.1 g6) (And.intro (box_grows Q1.out.2.1 g6) (box_grows Q1.out.2.2 g6)))
         have G6 := Lib.hid (grows_trans _ _ _ G1.out g6)
         clear d0 d1 d2 d3 d4 d5 d6 d7 d8 d9 d10 d11 d12 d13 d14 d15 d16 d17 zd x0 x1 x2 x3 x4 x5 x6 x7 x8 x9 x10 x11 x12
         obtain ⟨d16, -⟩ := cell_in Q6.out.1 16 rfl
         obtain ⟨d17, -⟩ := cell_in Q6.out.1 17 rfl
         obtain ⟨x1, -⟩ := cell_in Q6.out.2.1 1 rfl
         obtain ⟨x2, -⟩ := cell_in Q6.out.2.1 2 rfl
         obtain ⟨x3, -⟩ := cell_in Q6.out.2.1 3 rfl
         have zd := box_lt Q6.out.1
         refine ⟨_, rfl, ?_⟩
         clear hg6 g6)
      | (refine step_call (by rfl) 53 _ _ rfl _ ?hv Tryd.f53 Tryd.func53 (by kernel_rfl) (by kernel_rfl) (HPU.out _ G6.out) ?_
         case hv => simp [Act.eval]
         rintro e w7 ⟨v7, rfl, hg7, ho7⟩
         rw [← HL.out] at ho7
         obtain ⟨a7, c7, rfl⟩ := ROwn.len ho7 rfl
         have Q7 := Lib.hid (And.intro (box_grows Q6.out.1 hg7) (And.intro (box_grows Q6.out.2.1 hg7) (box_grows Q6.out.2.2 hg7)))
         have G7 := Lib.hid (grows_trans _ _ _ G6.out hg7)
         have O7 := Lib.hid ho7
         obtain ⟨n7, en7⟩ : ∃ n7, tl.length = n7 := ⟨_, rfl⟩
         have EN7 := Lib.hid en7
         rw [en7] at O7 ⊢
         clear d16 d17 x1 x2 x3 zd
         obtain ⟨p16, p16f⟩ := cell_in Q7.out.1 16 rfl
         obtain ⟨p17, p17f⟩ := cell_in Q7.out.1 17 rfl
         have zp := box_lt Q7.out.1
         refine ⟨_, rfl, ?_⟩
         clear hg7 ho7 en7)
      | fail)
    all_goals
      obtain ⟨h8, hc8⟩ := d_names (v' := .slice a7 n7 c7) Q7.out.1
      obtain ⟨w8, e8⟩ : ∃ w8, (w7.setCell ⟨b, 16, none⟩ (.slice a7 n7 c7)).setCell ⟨b, 17, none⟩ (.int .i64 (M : Int)) = w8 := ⟨_, rfl⟩
      rw [e8] at h8 hc8 ⊢
      have o8 := row_box O7.out Q7.out.1 hc8
      have b8 := box_chg Q7.out.2.2 hc8 (by omega)
      have C8 := Lib.hid hc8
      have H8 := Lib.hid h8
      have B8 := Lib.hid b8
      have O8 := Lib.hid o8
      clear h8 b8 o8 hc8 e8 p16 p16f p17 p17f zp
      go_wp2_with (first | (refine wpList_load_box rfl 41 (.tmp 4) rfl b (rdc me n B (.slice a7 n7 c7) M) rfl (Tryd.isAgg41 _) (Tryd.sizeOf41 _) H8.out ?_) | (refine wpList_store_box rfl 41 (.tmp 8) (.tmp 35) rfl (b + 1 + 1) (rdc me n B (.slice a7 n7 c7) M) rfl rfl (Tryd.sizeOf41 _) B8.out rfl (rdc_one _ _ _ _ _ _ _) ?_; intro w3 h3 c3))
      have o3 := row_box O8.out B8.out c3
      have g3 : Grows w w3 := (((Chg.ofGrows (S := fun j => j = b ∨ j = b + 1 + 1) G7.out).trans (C8.out.mono fun j _ hj => .inl hj)).trans (c3.mono fun j _ hj => .inr hj)).toGrows fun j hj e => by have := EP.out; omega
      exact bodyPost_ret (results_box2 Tryd.results30 rfl (Tryd.isAgg41 _) (Tryd.sizeOf41 _) h3) rfl ⟨a7, n7, c7, rfl, EN7.out.symm, g3, o3⟩
  · have e1 : (er != 0) = true := by simp [h0]
    have e2 : (er == 0) = false := by simp [h0]
    obtain rfl := HML.out.2 h0
    go_wp2_with (first | (refine wpList_load_box rfl 41 (.tmp 4) rfl b (rdc me n B (.slice a ln cap) M) rfl (Tryd.isAgg41 _) (Tryd.sizeOf41 _) Q1.out.1 ?_) | (refine wpList_store_box rfl 41 (.tmp 8) (.tmp 18) rfl (b + 1 + 1) (rdc me n B (.slice a ln cap) M) rfl rfl (Tryd.sizeOf41 _) Q1.out.2.2 rfl (rdc_one _ _ _ _ _ _ _) ?_; intro w3 h3 c3))
    have o3 := row_box (own_grows HO.out G1.out) Q1.out.2.2 c3
    have g3 : Grows w w3 := ((Chg.ofGrows G1.out).trans c3).toGrows fun j hj e => by have := EP.out; omega
    exact bodyPost_ret (results_box2 Tryd.results30 rfl (Tryd.isAgg41 _) (Tryd.sizeOf41 _) h3) rfl ⟨a, ln, cap, rfl, ELN.out.symm, g3, o3⟩
end Go.Proofs.YtgjieoljfcfacaaDoor
