/- The walk of RelayOnce. -/
import Derived.Test.YtgjieoljfcfacaaDoorRelOa
namespace Go.Proofs.YtgjieoljfcfacaaDoor
open Go.RowKit Go.Sort
set_option maxHeartbeats 4000000
set_option maxRecDepth 100000
/-- A relay, the document's, and the packet. -/
structure OcAt (W0 w : World) (base rb sb tb mb : Nat) (B : BV) (p q : Nat) (x : PW) (kv : Value) (m : List (KW × Value)) : Prop where
  rel : RelayAt w base rb sb tb kv mb m 9 1 4 B
  bp : w.heap[p]? = some (.cells (rdc 1 4 B (.slice none 0 0) 9) TRR (0, 0))
  bq : w.heap[q]? = some (.cells x.cells TPK (0, 0))
  low : W0.heap.size ≤ base
  lq : W0.heap.size ≤ q
  ne : q ≠ p
  gr : Grows W0 w
section
variable {W0 w w' : World} {base rb sb tb mb : Nat} {B : BV} {p q : Nat} {x y : PW} {kv r : Value} {m m' : List (KW × Value)} {e : Ending}
theorem OcAt.grows (h : OcAt W0 w base rb sb tb mb B p q x kv m) (hg : Grows w w') : OcAt W0 w' base rb sb tb mb B p q x kv m := ⟨h.rel.grows hg, box_grows h.bp hg, box_grows h.bq hg, h.low, h.lq, h.ne, grows_trans _ _ _ h.gr hg⟩
theorem OcAt.to (h : OcAt W0 w base rb sb tb mb B p q x kv m) (ht : RelayTo w base rb sb tb kv mb m' 9 1 4 B r e w') : e = .returned r ∧ ∃ kv', OcAt W0 w' base rb sb tb mb B p q x kv' m' := by
  obtain ⟨rfl, kv', k1, k2⟩ := RelayTo.next h.rel ht
  exact ⟨rfl, kv', k1, box_chg h.bp k2 (h.rel.notS h.bp), box_chg h.bq k2 (h.rel.notS h.bq), h.low, h.lq, h.ne, h.rel.low h.low h.gr k2⟩
theorem OcAt.set (h : OcAt W0 w base rb sb tb mb B p q x kv m) (hc : Chg (fun j => j = q) w w') (hb : w'.heap[q]? = some (.cells y.cells TPK (0, 0))) : OcAt W0 w' base rb sb tb mb B p q y kv m :=
  ⟨h.rel.setBox h.bq hc, box_chg h.bp hc (fun e => h.ne e.symm), hb, h.low, h.lq, h.ne, grows_chg h.gr hc (fun j hj => by rw [hj]; exact h.lq)⟩
end
/-- The packet's cells, none frozen. -/
theorem pat_free {w : World} {b : Nat} {x : PW} (h : w.heap[b]? = some (.cells x.cells TPK (0, 0))) : w.frozen? ⟨b, 0, none⟩ = false ∧ w.frozen? ⟨b, 1, none⟩ = false ∧ w.frozen? ⟨b, 2, none⟩ = false ∧ w.frozen? ⟨b, 3, none⟩ = false ∧ w.frozen? ⟨b, 4, none⟩ = false :=
  ⟨(cell_in h 0 rfl).2, (cell_in h 1 rfl).2, (cell_in h 2 rfl).2, (cell_in h 3 rfl).2, (cell_in h 4 rfl).2⟩
/-- What holds at the loop's head. -/
structure OcJ (W0 w : World) (base rb sb tb mb : Nat) (B : BV) (p q : Nat) (x : PW) (T : Int) (i : Nat) (now : Int) : Prop where
  all : ∃ kv m h, OM m ⟨T, 0, x.k.s⟩ (tillI B T) now ∧ OcAt W0 w base rb sb tb mb B p q (xo x T h) kv m
  lo : T ≤ now
  hi : now ≤ T + i * 65535
theorem oc_wrap {T now y nw : Int} {i : Nat} (hT : 0 ≤ T ∧ T ≤ 4294967295) (h0 : T ≤ now) (h1 : now ≤ T + i * 65535) (hi : i < 60) (hy : 0 ≤ y ∧ y ≤ 65535) (e : now + y = nw) :
    IntKind.i64.wrap y = y ∧ wrap64 y = y ∧ IntKind.i64.wrap (now + y) = nw ∧ wrap64 (now + y) = nw ∧ wrap64 nw = nw ∧ T ≤ nw ∧ nw ≤ T + ((i + 1 : Nat) : Int) * 65535 ∧ nw ≤ 5000000000 ∧ now ≤ nw := by
  subst e
  refine ⟨IntWalk.i64_in _ (by omega), IntWalk.wrap64_in _ (by omega), IntWalk.i64_in _ (by omega), IntWalk.wrap64_in _ (by omega), IntWalk.wrap64_in _ (by omega), by omega, by omega, by omega, by omega⟩
theorem oc_rem {i : Nat} {b : Int} (hb : 1 ≤ b ∧ b ≤ 63) : ∃ r : Int, Int.tmod (i : Int) b = r ∧ (i : Int) % b = r ∧ 0 ≤ r ∧ r < b ∧ IntKind.i64.wrap r = r ∧ wrap64 r = r ∧ IntKind.i64.wrap (1 + r) = 1 + r ∧ wrap64 (1 + r) = 1 + r ∧ (b == 0) = false ∧ (b = 0) = False := by
  have h1 := Int.emod_nonneg (i : Int) (show b ≠ 0 by omega)
  have h2 := Int.emod_lt_of_pos (i : Int) (show 0 < b by omega)
  refine ⟨_, Int.tmod_eq_emod_of_nonneg (by omega), rfl, h1, h2, IntWalk.i64_in _ (by omega), IntWalk.wrap64_in _ (by omega), IntWalk.i64_in _ (by omega), IntWalk.wrap64_in _ (by omega), by simp; omega, by simp; omega⟩
theorem relayOnce_walk (n f dmin dmax rho slew rnd win att seen hist fly quota body : Int) (la : Option Addr) (ll lc : Nat) (me nn most : Int) (x : PW) {v : Value} {l : List Int} {w : World} (h : GHas uv 1 w v l) (hk : ∀ s ∈ l, 0 ≤ s ∧ s ≤ 65535) (hT : Laid w) :
    Calls Tryd.prog 3 #[rcfg n f dmin dmax rho slew rnd win att seen hist fly quota body la ll lc me nn most, x.val, v] w (RetV w (.bool true)) := by
  obtain ⟨ln, eln⟩ : ∃ ln, l.length = ln := ⟨_, rfl⟩
  obtain ⟨va, vc, rfl⟩ := h.len eln
  obtain ⟨c, ec⟩ : ∃ c, w.heap.size = c := ⟨_, rfl⟩
  have hq := two_new w (.cells #[.int .i64 n, .slice la ll lc, .int .i64 f, .int .i64 dmin, .int .i64 dmax, .int .i64 rho, .int .i64 slew, .int .i64 rnd, .int .i64 win, .int .i64 att, .int .i64 seen, .int .i64 hist, .int .i64 fly, .int .i64 quota, .int .i64 body, .int .i64 me, .int .i64 nn, .int .i64 most] 26) (.cells x.cells TPK)
  obtain ⟨W, eW⟩ : ∃ W, (w.alloc (.cells #[.int .i64 n, .slice la ll lc, .int .i64 f, .int .i64 dmin, .int .i64 dmax, .int .i64 rho, .int .i64 slew, .int .i64 rnd, .int .i64 win, .int .i64 att, .int .i64 seen, .int .i64 hist, .int .i64 fly, .int .i64 quota, .int .i64 body, .int .i64 me, .int .i64 nn, .int .i64 most] 26)).alloc (.cells x.cells TPK) = W := ⟨_, rfl⟩
  have hg : Grows w W := by rw [← eW]; exact bl_alloc (bl_alloc (Below.refl _ _) _) _
  rw [eW, ec] at hq
  obtain ⟨p15, p15f⟩ := cell_in hq.1 15 rfl
  obtain ⟨p16, p16f⟩ := cell_in hq.1 16 rfl
  obtain ⟨p17, p17f⟩ := cell_in hq.1 17 rfl
  have zp := box_lt hq.1
  have hqa : (((W.setCell ⟨c, 15, none⟩ (.int .i64 1)).setCell ⟨c, 16, none⟩ (.int .i64 4)).setCell ⟨c, 17, none⟩ (.int .i64 9)).heap[c]? = some (.cells #[.int .i64 n, .slice la ll lc, .int .i64 f, .int .i64 dmin, .int .i64 dmax, .int .i64 rho, .int .i64 slew, .int .i64 rnd, .int .i64 win, .int .i64 att, .int .i64 seen, .int .i64 hist, .int .i64 fly, .int .i64 quota, .int .i64 body, .int .i64 1, .int .i64 4, .int .i64 9] 26 (0, 0)) := box_setj (j := 17) (box_setj (j := 16) (box_setj (j := 15) hq.1))
  have hca : Chg (fun j => j = c) W (((W.setCell ⟨c, 15, none⟩ (.int .i64 1)).setCell ⟨c, 16, none⟩ (.int .i64 4)).setCell ⟨c, 17, none⟩ (.int .i64 9)) := Chg.setCell (S := fun i => i = c) (Chg.setCell (S := fun i => i = c) (Chg.setCell (S := fun i => i = c) (Chg.refl _ _) _ (.inr rfl)) _ (.inr rfl)) _ (.inr rfl)
  obtain ⟨WA, eA⟩ : ∃ WA, ((W.setCell ⟨c, 15, none⟩ (.int .i64 1)).setCell ⟨c, 16, none⟩ (.int .i64 4)).setCell ⟨c, 17, none⟩ (.int .i64 9) = WA := ⟨_, rfl⟩
  rw [eA] at hqa hca
  have HQ := Lib.hid (And.intro hqa (box_chg hq.2 hca (by omega)))
  have HG := Lib.hid (show Grows w WA from grows_chg hg hca (fun j hj => by omega))
  have HH := Lib.hid (And.intro h (And.intro hk hT))
  have HMA := Lib.hid (made_any n f dmin dmax rho slew rnd win att seen hist fly quota body la ll lc 1 4 9 WA)
  have EN := Lib.hid eln
  clear h hk hT hq hg hqa hca
  obtain ⟨T, eT⟩ : ∃ T, IntKind.u32.wrap x.k.t = T := ⟨_, rfl⟩
  have hTr : 0 ≤ T ∧ T ≤ 4294967295 := by rw [← eT, IntKind.wrap_u32]; omega
  have HTR := Lib.hid hTr
  have eT2 : IntKind.i64.wrap T = T := IntWalk.i64_in _ (by omega)
  have eT3 : wrap64 T = T := by rw [← wrapEq]; exact eT2
  clear hTr
  go_enter Tryd.func3, Tryd.ntmps3
  go_wp2_with (refine wpList_load_box rfl 26 (.tmp 3) rfl c #[.int .i64 n, .slice la ll lc, .int .i64 f, .int .i64 dmin, .int .i64 dmax, .int .i64 rho, .int .i64 slew, .int .i64 rnd, .int .i64 win, .int .i64 att, .int .i64 seen, .int .i64 hist, .int .i64 fly, .int .i64 quota, .int .i64 body, .int .i64 1, .int .i64 4, .int .i64 9] rfl (Tryd.isAgg26 _) (Tryd.sizeOf26 _) HQ.out.1 ?_)
  refine HMA.out.mono ?_
  rintro e w1 ⟨B, base, rb, sb, tb, mb, hBk, hba, rfl, hg1, hr1⟩
  have HBK := Lib.hid hBk
  have HU := Lib.hid (uok_of hBk)
  have HBA := Lib.hid (Nat.le_trans HG.out.size hba)
  have R1 := Lib.hid hr1
  have G1 := Lib.hid (grows_trans _ _ _ HG.out hg1)
  have HQ1 := Lib.hid (box_grows HQ.out.2 hg1)
  have hM : mostOfI 9 = 9 := rfl
  rw [hM] at R1 ⊢
  obtain ⟨p, ep⟩ : ∃ p, w1.heap.size = p := ⟨_, rfl⟩
  obtain ⟨w2, e2⟩ : ∃ w2, w1.alloc (.cells zrd TRR) = w2 := ⟨_, rfl⟩
  have g2 : Grows w1 w2 := by rw [← e2]; exact bl_alloc (Below.refl _ _) _
  have hp2 : w2.heap[p]? = some (.cells zrd TRR (0, 0)) := by rw [← e2, ← ep]; exact heap_alloc_new w1 _
  have G2 := Lib.hid (And.intro g2 hp2)
  have hlt1 := box_lt HQ1.out
  have NP := Lib.hid (show c + 1 ≠ p ∧ w.heap.size ≤ p ∧ w.heap.size ≤ c + 1 by have := G1.out.size; omega)
  clear hBk hba hg1 hr1 g2 hp2 eW hlt1 hM p15 p15f p16 p16f p17 p17f zp eA
  go_wp2_with (first
    | (refine wpList_store_box rfl 41 (.tmp 8) (.tmp 19) rfl p (rdc 1 4 B (.slice none 0 0) 9) rfl rfl (Tryd.sizeOf41 _) G2.out.2 rfl (rdc_one _ _ _ _ _ _ _) ?_
       intro w4 h4 c4
       have D4 := Lib.hid (show OcAt w w4 base rb sb tb mb B p (c + 1) x (.slice none 0 0) [] from ⟨(R1.out.grows G2.out.1).setBox G2.out.2 c4, h4, box_chg (box_grows HQ1.out G2.out.1) c4 NP.out.1, HBA.out, NP.out.2.2, NP.out.1, grows_chg (grows_trans _ _ _ G1.out G2.out.1) c4 (fun j hj => by rw [hj]; exact NP.out.2.1)⟩)
       clear h4 c4 e2
       obtain ⟨x0, x1, x2, x3, x4, x5, x6, x7, x8, x9, x10, x11, x12⟩ := pat_of D4.out.bq
       obtain ⟨f0, f1, f2, f3, f4⟩ := pat_free D4.out.bq
       have hb5 : (((((w4.setCell ⟨c + 1, 0, none⟩ (.int .i64 4)).setCell ⟨c + 1, 1, none⟩ (.int .i64 T)).setCell ⟨c + 1, 2, none⟩ (.int .i64 0)).setCell ⟨c + 1, 3, none⟩ (.int .u32 x.k.s)).setCell ⟨c + 1, 4, none⟩ (.int .i64 1)).heap[c + 1]? = some (.cells (xo x T 1).cells TPK (0, 0)) := box_setj (j := 4) (box_setj (j := 3) (box_setj (j := 2) (box_setj (j := 1) (box_setj (j := 0) D4.out.bq))))
       have hc5 : Chg (fun j => j = c + 1) w4 (((((w4.setCell ⟨c + 1, 0, none⟩ (.int .i64 4)).setCell ⟨c + 1, 1, none⟩ (.int .i64 T)).setCell ⟨c + 1, 2, none⟩ (.int .i64 0)).setCell ⟨c + 1, 3, none⟩ (.int .u32 x.k.s)).setCell ⟨c + 1, 4, none⟩ (.int .i64 1)) := Chg.setCell (S := fun i => i = c + 1) (Chg.setCell (S := fun i => i = c + 1) (Chg.setCell (S := fun i => i = c + 1) (Chg.setCell (S := fun i => i = c + 1) (Chg.setCell (S := fun i => i = c + 1) (Chg.refl _ _) _ (.inr rfl)) _ (.inr rfl)) _ (.inr rfl)) _ (.inr rfl)) _ (.inr rfl)
       obtain ⟨w5, e5⟩ : ∃ w5, ((((w4.setCell ⟨c + 1, 0, none⟩ (.int .i64 4)).setCell ⟨c + 1, 1, none⟩ (.int .i64 T)).setCell ⟨c + 1, 2, none⟩ (.int .i64 0)).setCell ⟨c + 1, 3, none⟩ (.int .u32 x.k.s)).setCell ⟨c + 1, 4, none⟩ (.int .i64 1) = w5 := ⟨_, rfl⟩
       rw [e5] at hb5 hc5
       have D5 := Lib.hid (D4.out.set hc5 hb5)
       obtain ⟨y0, y1, y2, y3, y4, y5, y6, y7, y8, y9, y10, y11, y12⟩ := pat_of D5.out.bq
       have d12 := (cell_in D5.out.bp 12 rfl).1
       have dz := box_lt D5.out.bp
       clear hb5 hc5))
  refine (rtake_any B.b10 T (xo x T 1) D5.out.rel HU.out D5.out.rel.base_le).mono ?_
  intro e w6 ht
  rw [once_take HBK.out HTR.out, if_pos rfl, insT_one] at ht
  obtain ⟨rfl, kv6, hd6⟩ := D5.out.to ht
  have J6 := Lib.hid (show OcJ w w6 base rb sb tb mb B p (c + 1) x T 0 T from ⟨⟨kv6, _, 1, .inl rfl, hd6⟩, Int.le_refl _, by omega⟩)
  clear ht hd6 x0 x1 x2 x3 x4 x5 x6 x7 x8 x9 x10 x11 x12 f0 f1 f2 f3 f4 y0 y1 y2 y3 y4 y5 y6 y7 y8 y9 y10 y11 y12 d12 dz e5
  go_wp2_with fail
  go_loopw [9, 10] (fun nv iv wr => ∃ (i : Nat) (now : Int), nv = .int .i64 now ∧ iv = .int .i64 (i : Int) ∧ i ≤ ln ∧ i ≤ 60 ∧ OcJ w wr base rb sb tb mb B p (c + 1) x T i now) (fun _ iv _ => 60 - (intOf iv).toNat)
  case atStart => exact ⟨0, T, rfl, rfl, Nat.zero_le _, Nat.zero_le _, J6.out⟩
  case round =>
    obtain ⟨i, now, rfl, rfl, hi, hi60, hpj⟩ := hrel
    obtain ⟨kv, m, hh, hm, hd⟩ := hpj.all
    have D0 := Lib.hid (And.intro hd (And.intro hm (And.intro hpj.lo hpj.hi)))
    clear hm hd hpj
    by_cases hlt : i < ln ∧ i < 60
    · obtain ⟨hin, h60⟩ := hlt
      have hnl : i < l.length := by rw [EN.out]; exact hin
      obtain ⟨g, o, cap, he, hml, hgl, hat⟩ := HH.out.1.form EN.out (by omega)
      simp only [Value.slice.injEq, true_and] at he
      obtain ⟨rfl, rfl⟩ := he
      obtain ⟨y, ey⟩ : ∃ y, l[i] = y := ⟨_, rfl⟩
      have hy : 0 ≤ y ∧ y ≤ 65535 := HH.out.2.1 _ (by rw [← ey]; exact List.getElem_mem hnl)
      have gr : Grows w wr := D0.out.1.gr
      have k0 : wr.cell? ⟨g, o + i, none⟩ = some (.int .u16 y) := by
        have h1 := hat i hnl 0 (by decide)
        rw [ey] at h1
        have h2 := (gr.cell (p := ⟨g, o + i * 1 + 0, none⟩) hgl).trans h1
        simpa using h2
      have gz := Nat.lt_of_lt_of_le hgl gr.size
      obtain ⟨nw, enw⟩ : ∃ nw, now + y = nw := ⟨_, rfl⟩
      obtain ⟨u1, u2, u3, u4', u9, u5, u6, u7, u8⟩ := oc_wrap HTR.out D0.out.2.2.1 D0.out.2.2.2 h60 hy enw
      have HNW := Lib.hid (And.intro u5 (And.intro u6 (And.intro u7 u8)))
      obtain ⟨r, hr1, hr2, hr3, hr4, hr5, hr6, hr7, hr8, hr9, hr10⟩ := oc_rem (i := i) (b := B.b0) (by obtain ⟨h1, h2, -⟩ := HBK.out; exact ⟨h1, h2⟩)
      have HRM := Lib.hid (show 1 ≤ 1 + r ∧ 1 + r ≤ B.b0 by omega)
      have hn6 : i ≤ 1000000 := Nat.le_trans hi60 (by decide)
      have HNF := Lib.hid (nat_facts i hn6)
      have HWS := Lib.hid (wrap_succ hn6)
      have H60 := Lib.hid h60
      have HIN := Lib.hid hin
      have hd1 : decide ((i : Int) < (ln : Int)) = true := decide_eq_true (by omega)
      have hd2 : decide ((i : Int) < 60) = true := decide_eq_true (by omega)
      have hq1 : (i < ln) = True := eq_true hin
      have hq2 : (i < 60) = True := eq_true h60
      have hq3 : (i : Int) < (ln : Int) := Int.ofNat_lt.2 hin
      have hq4 : (i : Int) < 60 := by omega
      clear hnl hat ey hy hn6 hi hi60 h60 hml hgl hin gr u5 u6 u7 u8 hr3 hr4
      obtain ⟨j1, j2, j3, j4, j6⟩ := HNF.out
      go_wp2_with fail
      refine (rexpire_r_any nw D0.out.1.rel D0.out.2.1.vals).mono ?_
      intro e w2 ht
      obtain ⟨rfl, kv2, hd2'⟩ := D0.out.1.to ht
      have HST := Lib.hid (once_step (h := 1 + r) HBK.out HTR.out ⟨HNW.out.1, HNW.out.2.2.1⟩ HNW.out.2.2.2 HRM.out D0.out.2.1)
      obtain ⟨m2, em2⟩ : ∃ m2, (m.filter fun p => !overD nw p) = m2 := ⟨_, rfl⟩
      obtain ⟨cnt, ecnt⟩ : ∃ cnt, ((m.filter (overD nw)).length : Int) = cnt := ⟨_, rfl⟩
      rw [em2] at hd2' HST
      have D2 := Lib.hid hd2'
      rw [ecnt]
      clear ht hd2' em2 ecnt k0 gz
      have d2 := (cell_in D2.out.bp 2 rfl).1
      have d12 := (cell_in D2.out.bp 12 rfl).1
      have dz := box_lt D2.out.bp
      obtain ⟨x0, x1, x2, x3, x4, x5, x6, x7, x8, x9, x10, x11, x12⟩ := pat_of D2.out.bq
      obtain ⟨f0, f1, f2, f3, f4⟩ := pat_free D2.out.bq
      have hb3 : (w2.setCell ⟨c + 1, 4, none⟩ (.int .i64 (1 + r))).heap[c + 1]? = some (.cells (xo x T (1 + r)).cells TPK (0, 0)) := box_setj (j := 4) D2.out.bq
      have hc3 : Chg (fun j => j = c + 1) w2 (w2.setCell ⟨c + 1, 4, none⟩ (.int .i64 (1 + r))) := Chg.setCell (S := fun i => i = c + 1) (Chg.refl _ _) _ (.inr rfl)
      obtain ⟨w3, e3⟩ : ∃ w3, w2.setCell ⟨c + 1, 4, none⟩ (.int .i64 (1 + r)) = w3 := ⟨_, rfl⟩
      rw [e3] at hb3 hc3
      have D3 := Lib.hid (D2.out.set hc3 hb3)
      obtain ⟨y0, y1, y2, y3, y4, y5, y6, y7, y8, y9, y10, y11, y12⟩ := pat_of D3.out.bq
      have g12 := (cell_in D3.out.bp 12 rfl).1
      have gz := box_lt D3.out.bp
      clear hb3 hc3
      go_wp2_with fail
      refine (rtake_any B.b10 nw (xo x T (1 + r)) D3.out.rel HU.out D3.out.rel.base_le).mono ?_
      intro e w4 ht
      have hst := HST.out
      obtain ⟨hom, h3⟩ := hst
      have HOM := Lib.hid hom
      obtain ⟨er, eer⟩ : ∃ er, rchk m2 9 1 4 B B.b10 nw (xo x T (1 + r)) = er := ⟨_, rfl⟩
      rw [eer] at h3 ht
      have hne : er ≠ 0 := by rcases h3 with h | h | h <;> omega
      rw [if_neg hne] at ht
      obtain ⟨rfl, kv4, hd4⟩ := D3.out.to ht
      have D4 := Lib.hid hd4
      obtain ⟨tv, etv⟩ : ∃ tv, tillI B T = tv := ⟨_, rfl⟩
      have HUN := Lib.hid (show Calls Tryd.prog 11 #[bnd B.b0 B.b1 B.b2 B.b3 B.b4 B.b5 B.b6 B.b7 B.b8 B.b9 B.b10 B.b11 B.b12 B.b13, .int .i64 T] w4 (RetV w4 (.int .i64 tv)) from by rw [← etv]; exact runtil_any B.b0 B.b1 B.b2 B.b3 B.b4 B.b5 B.b6 B.b7 B.b8 B.b9 B.b10 B.b11 B.b12 B.b13 T w4 HU.out)
      rw [etv] at h3
      clear u1 u2 u3 u4' u9 hr1 hr2 hr5 hr6 hr7 hr8 hr9 hr10 eT eT2 eT3 enw hd1 hd2 hq1 hq2 hq3 hq4
      clear ht hd4 hne hom x0 x1 x2 x3 x4 x5 x6 x7 x8 x9 x10 x11 x12 f0 f1 f2 f3 f4 y0 y1 y2 y3 y4 y5 y6 y7 y8 y9 y10 y11 y12 d2 d12 dz g12 gz e3 eer
      obtain ⟨d0, d1, d2, d3, d4, d5, d6, d7, d8, d9, d10, d11, d12, d13, d14, d15, d16, d17, zd⟩ := dat_of D4.out.bp
      obtain ⟨x0, x1, x2, x3, x4, x5, x6, x7, x8, x9, x10, x11, x12⟩ := pat_of D4.out.bq
      rcases h3 with ⟨her, hl2, hcmp⟩ | ⟨her, hl2, hcmp⟩ | ⟨her, hl2, hcmp⟩
      · subst her
        have HLN := Lib.hid (fun W' (hg : Grows w4 W') => show Calls Tryd.prog 10 #[.pointer (some ⟨rb, 0, none⟩)] W' (fun e w'' => e = .returned (.int .i64 1) ∧ W' = w'') from by have := rlen_any (D4.out.rel.grows hg); rw [hl2] at this; exact this)
        have hv1 : decide (tv < nw) = false := decide_eq_false (by omega)
        have hv2 : (tv < nw) = False := eq_false (by omega)
        clear hl2 hcmp
        go_wp2_with fail
        refine (HLN.out _ (Below.refl _ _)).mono ?_
        rintro e w5 ⟨rfl, rfl⟩
        go_wp2_with fail
        refine (HUN.out).mono ?_
        rintro e w5 ⟨rfl, hg5⟩
        have G5 := Lib.hid hg5
        clear hg5
        go_wp2_with fail
        go_roundw
        case rel => exact ⟨i + 1, nw, rfl, congrArg (Value.int .i64) HWS.out, HIN.out, H60.out, ⟨⟨_, _, _, HOM.out, D4.out.grows G5.out⟩, HNW.out.1, HNW.out.2.1⟩⟩
        case measure => rw [HWS.out]; exact meas_succ H60.out
      · subst her
        have HLN := Lib.hid (fun W' (hg : Grows w4 W') => show Calls Tryd.prog 10 #[.pointer (some ⟨rb, 0, none⟩)] W' (fun e w'' => e = .returned (.int .i64 1) ∧ W' = w'') from by have := rlen_any (D4.out.rel.grows hg); rw [hl2] at this; exact this)
        have hv1 : decide (tv < nw) = false := decide_eq_false (by omega)
        have hv2 : (tv < nw) = False := eq_false (by omega)
        clear hl2 hcmp
        go_wp2_with fail
        refine (HLN.out _ (Below.refl _ _)).mono ?_
        rintro e w5 ⟨rfl, rfl⟩
        go_wp2_with fail
        refine (HUN.out).mono ?_
        rintro e w5 ⟨rfl, hg5⟩
        have G5 := Lib.hid hg5
        clear hg5
        go_wp2_with fail
        go_roundw
        case rel => exact ⟨i + 1, nw, rfl, congrArg (Value.int .i64) HWS.out, HIN.out, H60.out, ⟨⟨_, _, _, HOM.out, D4.out.grows G5.out⟩, HNW.out.1, HNW.out.2.1⟩⟩
        case measure => rw [HWS.out]; exact meas_succ H60.out
      · subst her
        have HLN := Lib.hid (fun W' (hg : Grows w4 W') => show Calls Tryd.prog 10 #[.pointer (some ⟨rb, 0, none⟩)] W' (fun e w'' => e = .returned (.int .i64 0) ∧ W' = w'') from by have := rlen_any (D4.out.rel.grows hg); rw [hl2] at this; exact this)
        have hv1 : decide (tv < nw) = true := decide_eq_true (by omega)
        have hv2 : (tv < nw) = True := eq_true (by omega)
        clear hl2 hcmp
        go_wp2_with fail
        refine (HLN.out _ (Below.refl _ _)).mono ?_
        rintro e w5 ⟨rfl, rfl⟩
        go_wp2_with fail
        refine (HUN.out).mono ?_
        rintro e w5 ⟨rfl, hg5⟩
        have G5 := Lib.hid hg5
        clear hg5
        go_wp2_with fail
        refine (HLN.out _ G5.out).mono ?_
        rintro e w6 ⟨rfl, rfl⟩
        go_wp2_with fail
        go_roundw
        case rel => exact ⟨i + 1, nw, rfl, congrArg (Value.int .i64) HWS.out, HIN.out, H60.out, ⟨⟨_, _, _, HOM.out, D4.out.grows G5.out⟩, HNW.out.1, HNW.out.2.1⟩⟩
        case measure => rw [HWS.out]; exact meas_succ H60.out
    · have hex : (decide ((i : Int) < (ln : Int)) = false ∧ (i < ln) = False) ∨ (decide ((i : Int) < (ln : Int)) = true ∧ (i < ln) = True ∧ decide ((i : Int) < 60) = false ∧ (i < 60) = False) := by
        by_cases h1 : i < ln
        · exact .inr ⟨decide_eq_true (by omega), eq_true h1, decide_eq_false (by omega), eq_false (by omega)⟩
        · exact .inl ⟨decide_eq_false (by omega), eq_false h1⟩
      have HW := Lib.hid (relayWorks_any wr (HH.out.2.2.grows D0.out.1.gr))
      clear hlt hi hi60
      rcases hex with ⟨hd1, hq1⟩ | ⟨hd1, hq1, hd2, hq2⟩
      all_goals
        go_wp2_with fail
        refine (HW.out).mono ?_
        rintro e w3 ⟨rfl, hg3⟩
        have HG3 := Lib.hid (grows_trans _ _ _ D0.out.1.gr hg3)
        clear hg3
        go_wp2_with fail
        go_ret
        exact ⟨rfl, HG3.out⟩
end Go.Proofs.YtgjieoljfcfacaaDoor
