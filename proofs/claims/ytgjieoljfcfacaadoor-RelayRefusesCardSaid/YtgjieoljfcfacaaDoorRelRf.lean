/- The walk of RelayRefuses. -/
import Derived.Test.YtgjieoljfcfacaaDoorRelJ
import Derived.Test.YtgjieoljfcfacaaDoorRelZ
namespace Go.Proofs.YtgjieoljfcfacaaDoor
open Go.RowKit Go.Sort
set_option maxHeartbeats 4000000
set_option maxRecDepth 100000
theorem one01_t (w : World) : Calls Tryd.prog 15 #[.bool true] w (fun e w' => e = .returned (.int .i64 1) ∧ w = w') := by
  go_enter Tryd.func15, Tryd.ntmps15
  go_wp2_with fail
  go_ret
  exact ⟨rfl, rfl⟩
theorem one01_f (w : World) : Calls Tryd.prog 15 #[.bool false] w (fun e w' => e = .returned (.int .i64 0) ∧ w = w') := by
  go_enter Tryd.func15, Tryd.ntmps15
  go_wp2_with fail
  go_ret
  exact ⟨rfl, rfl⟩
theorem wrap_few {n : Nat} (h : n ≤ 65536) : IntKind.i64.wrap ((n : Int) + 1) = (n : Int) + 1 ∧ IntKind.i64.wrap (n : Int) = (n : Int) := by
  rw [wrapEq, wrapEq]; unfold wrap64; omega
/-- A relay beside two boxes. -/
structure RfAt (W0 w : World) (base rb sb tb mb M : Nat) (me n : Int) (B : BV) (p q : Nat) (cs ds : Array Value) (kv : Value) (m : List (KW × Value)) : Prop where
  rel : RelayAt w base rb sb tb kv mb m M me n B
  bp : w.heap[p]? = some (.cells cs TRR (0, 0))
  bq : w.heap[q]? = some (.cells ds TRA (0, 0))
  low : W0.heap.size ≤ base
  gr : Grows W0 w
section
variable {W0 w w' : World} {base rb sb tb mb M : Nat} {me n : Int} {B : BV} {p q : Nat} {cs ds : Array Value} {kv r : Value} {m m' : List (KW × Value)} {e : Ending}
theorem RfAt.grows (h : RfAt W0 w base rb sb tb mb M me n B p q cs ds kv m) (hg : Grows w w') : RfAt W0 w' base rb sb tb mb M me n B p q cs ds kv m := ⟨h.rel.grows hg, box_grows h.bp hg, box_grows h.bq hg, h.low, grows_trans _ _ _ h.gr hg⟩
theorem RfAt.to (h : RfAt W0 w base rb sb tb mb M me n B p q cs ds kv m) (ht : RelayTo w base rb sb tb kv mb m' M me n B r e w') : e = .returned r ∧ ∃ kv', RfAt W0 w' base rb sb tb mb M me n B p q cs ds kv' m' := by
  obtain ⟨rfl, kv', k1, k2⟩ := RelayTo.next h.rel ht
  exact ⟨rfl, kv', k1, box_chg h.bp k2 (h.rel.notS h.bp), box_chg h.bq k2 (h.rel.notS h.bq), h.low, h.rel.low h.low h.gr k2⟩
end
theorem rf_len {m : List (KW × Value)} {k : KW} {v : Value} (c : Prop) [Decidable c] : (if c then insT m k v else m).length = m.length + (if c then 1 else 0) := by
  split
  · rw [insT_length]
  · rfl
theorem relayRefuses_walk (n f dmin dmax rho slew rnd win att seen hist fly quota body : Int) (la : Option Addr) (ll lc : Nat) (me nn most : Int) (a b : RA) {w : World} (ha : RAOk w a) (hb : RAOk w b) (hT : Laid w) :
    Calls Tryd.prog 4 #[rcfg n f dmin dmax rho slew rnd win att seen hist fly quota body la ll lc me nn most, .agg a.cells, .agg b.cells] w (RetV w (.bool true)) := by
  obtain ⟨c, ec⟩ : ∃ c, w.heap.size = c := ⟨_, rfl⟩
  have hq := three_box w (.cells #[.int .i64 n, .slice la ll lc, .int .i64 f, .int .i64 dmin, .int .i64 dmax, .int .i64 rho, .int .i64 slew, .int .i64 rnd, .int .i64 win, .int .i64 att, .int .i64 seen, .int .i64 hist, .int .i64 fly, .int .i64 quota, .int .i64 body, .int .i64 me, .int .i64 nn, .int .i64 most] 26) (.cells a.cells TRA) (.cells b.cells TRA)
  obtain ⟨W, eW⟩ : ∃ W, ((w.alloc (.cells #[.int .i64 n, .slice la ll lc, .int .i64 f, .int .i64 dmin, .int .i64 dmax, .int .i64 rho, .int .i64 slew, .int .i64 rnd, .int .i64 win, .int .i64 att, .int .i64 seen, .int .i64 hist, .int .i64 fly, .int .i64 quota, .int .i64 body, .int .i64 me, .int .i64 nn, .int .i64 most] 26)).alloc (.cells a.cells TRA)).alloc (.cells b.cells TRA) = W := ⟨_, rfl⟩
  have hg : Grows w W := by rw [← eW]; exact bl_alloc (bl_alloc (bl_alloc (Below.refl _ _) _) _) _
  rw [eW, ec] at hq
  have HQ := Lib.hid hq
  have HG := Lib.hid hg
  have HT := Lib.hid hT
  have HMA := Lib.hid (made_any n f dmin dmax rho slew rnd win att seen hist fly quota body la ll lc me nn most W)
  clear ha hb hT hq hg
  go_enter Tryd.func4, Tryd.ntmps4
  go_wp2_with (refine wpList_load_box rfl 26 (.tmp 3) rfl c #[.int .i64 n, .slice la ll lc, .int .i64 f, .int .i64 dmin, .int .i64 dmax, .int .i64 rho, .int .i64 slew, .int .i64 rnd, .int .i64 win, .int .i64 att, .int .i64 seen, .int .i64 hist, .int .i64 fly, .int .i64 quota, .int .i64 body, .int .i64 me, .int .i64 nn, .int .i64 most] rfl (Tryd.isAgg26 _) (Tryd.sizeOf26 _) HQ.out.1 ?_)
  refine HMA.out.mono ?_
  rintro e w1 ⟨B, base, rb, sb, tb, mb, hBk, hba, rfl, hg1, hr1⟩
  have HU := Lib.hid (uok_of hBk)
  have HBA := Lib.hid (Nat.le_trans HG.out.size hba)
  have R1 := Lib.hid hr1
  have G1 := Lib.hid (grows_trans _ _ _ HG.out hg1)
  have HQ1 := Lib.hid (And.intro (box_grows HQ.out.2.1 hg1) (box_grows HQ.out.2.2 hg1))
  obtain ⟨M, eM⟩ : ∃ M, mostOfI most = M := ⟨_, rfl⟩
  rw [eM] at R1 ⊢
  obtain ⟨p, ep⟩ : ∃ p, w1.heap.size = p := ⟨_, rfl⟩
  obtain ⟨w2, e2⟩ : ∃ w2, w1.alloc (.cells zrd TRR) = w2 := ⟨_, rfl⟩
  have g2 : Grows w1 w2 := by rw [← e2]; exact bl_alloc (Below.refl _ _) _
  have hp2 : w2.heap[p]? = some (.cells zrd TRR (0, 0)) := by rw [← e2, ← ep]; exact heap_alloc_new w1 _
  have G2 := Lib.hid (And.intro g2 hp2)
  have hlt1 := box_lt HQ1.out.1
  have hlt2 := box_lt HQ1.out.2
  have NP := Lib.hid (show c + 1 ≠ p ∧ c + 1 + 1 ≠ p ∧ w.heap.size ≤ p by have := G1.out.size; omega)
  clear hBk hba hg1 hr1 g2 hp2 eW eM hlt1 hlt2
  go_wp2_with (first
    | (refine wpList_store_box rfl 41 (.tmp 8) (.tmp 16) rfl p (rdc me nn B (.slice none 0 0) M) rfl rfl (Tryd.sizeOf41 _) G2.out.2 rfl (rdc_one _ _ _ _ _ _ _) ?_
       intro w4 h4 c4
       have D4 := Lib.hid (show RD w w4 base rb sb tb mb (.slice none 0 0) M me nn B (.slice none 0 0) [] from ⟨(R1.out.grows G2.out.1).setBox G2.out.2 c4, World.ownsRow_nil _ _ _ _, HBA.out, grows_chg (grows_trans _ _ _ G1.out G2.out.1) c4 (fun j hj => by rw [hj]; exact NP.out.2.2)⟩)
       have Q4 := Lib.hid (And.intro h4 (And.intro (box_chg (box_grows HQ1.out.1 G2.out.1) c4 NP.out.1) (box_chg (box_grows HQ1.out.2 G2.out.1) c4 NP.out.2.1)))
       clear h4 c4 e2
       obtain ⟨k0, k1, k2, k3, k4, k5, k6, k7, k8, k9, k10, k11, k12, k13, k14, k15, k16, kz⟩ := actc_of Q4.out.2.1)
    | (refine wpList_load_box rfl 41 (.tmp 8) rfl p (rdc me nn B (.slice none 0 0) M) rfl (Tryd.isAgg41 _) (Tryd.sizeOf41 _) Q4.out.1 ?_))
  refine (one_take 0 a.tol a.now a.x 0 0 D4.out (Nat.zero_le _) HU.out (.inl rfl)).mono ?_
  rintro e w5 ⟨kv5, a5, n5, c5, rfl, hd5, hc5⟩
  have Q5 := Lib.hid (And.intro (box_chg Q4.out.1 hc5 (D4.out.rel.notS Q4.out.1)) (box_chg Q4.out.2.2 hc5 (D4.out.rel.notS Q4.out.2.2)))
  have D5 := Lib.hid hd5
  have NQ := Lib.hid (show c + 1 + 1 ≠ p from NP.out.2.1)
  clear hd5 hc5 k0 k1 k2 k3 k4 k5 k6 k7 k8 k9 k10 k11 k12 k13 k14 k15 k16 kz
  obtain ⟨l1, el1⟩ : ∃ l1, takeL [] M me nn B a.tol a.now a.x = l1 := ⟨_, rfl⟩
  rw [el1] at D5
  clear el1
  obtain ⟨np, enp⟩ : ∃ np, l1.length = np := ⟨_, rfl⟩
  have hlen : (l1.map tv).length = np := by rw [List.length_map]; exact enp
  obtain ⟨a6, c6, hs6⟩ := ROwn.len D5.out.own enp
  simp only [Value.slice.injEq] at hs6
  obtain ⟨-, rfl, -⟩ := hs6
  have HFW := Lib.hid (show IntKind.i64.wrap ((n5 : Int) + 1) = (n5 : Int) + 1 ∧ IntKind.i64.wrap (n5 : Int) = (n5 : Int) from wrap_few (by rw [← hlen]; exact Nat.le_trans D5.out.rel.seen.tab.few D5.out.rel.seen.tab.most))
  have HLEN := Lib.hid hlen
  obtain ⟨er, eer⟩ : ∃ er, rchk (l1.map tv) M me nn B b.tol b.now b.x = er := ⟨_, rfl⟩
  have EER := Lib.hid eer
  clear eer hlen enp
  go_wp2_with (first
    | (refine wpList_store_box rfl 41 (.tmp 8) (.tmp 28) rfl p (rdc me nn B (.slice a5 n5 c5) M) rfl rfl (Tryd.sizeOf41 _) Q5.out.1 rfl (rdc_one _ _ _ _ _ _ _) ?_
       intro w6 h6 c6'
       have R6 := Lib.hid (show RfAt w w6 base rb sb tb mb M me nn B p (c + 1 + 1) (rdc me nn B (.slice a5 n5 c5) M) b.cells kv5 (l1.map tv) from ⟨D5.out.rel.setBox Q5.out.1 c6', h6, box_chg Q5.out.2 c6' NQ.out, D5.out.low, grows_chg D5.out.gr c6' (fun j hj => by rw [hj]; exact NP.out.2.2)⟩)
       clear h6 c6'))
  refine (rlen_any R6.out.rel).mono ?_
  rintro e w7 ⟨rfl, rfl⟩
  rw [HLEN.out]
  obtain ⟨k0, k1, k2, k3, k4, k5, k6, k7, k8, k9, k10, k11, k12, k13, k14, k15, k16, kz⟩ := actc_of R6.out.bq
  go_wp2_with fail
  refine (rcheck_r_any b.tol b.now b.x R6.out.rel).mono ?_
  rintro e w8 ⟨rfl, hg8⟩
  rw [EER.out]
  have R8 := Lib.hid (R6.out.grows hg8)
  clear hg8 k0 k1 k2 k3 k4 k5 k6 k7 k8 k9 k10 k11 k12 k13 k14 k15 k16 kz
  obtain ⟨k0, k1, k2, k3, k4, k5, k6, k7, k8, k9, k10, k11, k12, k13, k14, k15, k16, kz⟩ := actc_of R8.out.bq
  go_wp2_with fail
  refine (rtake_any b.tol b.now b.x R8.out.rel HU.out R8.out.rel.base_le).mono ?_
  intro e w9 ht
  obtain ⟨rfl, kv9, hr9⟩ := R8.out.to ht
  rw [EER.out] at hr9 ⊢
  have R9 := Lib.hid hr9
  clear ht hr9 k0 k1 k2 k3 k4 k5 k6 k7 k8 k9 k10 k11 k12 k13 k14 k15 k16 kz
  by_cases h0 : er = 0
  · subst h0
    have HL9 := Lib.hid (fun W' (hg : Grows w9 W') => show Calls Tryd.prog 10 #[.pointer (some ⟨rb, 0, none⟩)] W' (fun e w'' => e = .returned (.int .i64 ((n5 : Int) + 1)) ∧ W' = w'') from by
      have := rlen_any (R9.out.rel.grows hg)
      rw [if_pos rfl, insT_length, HLEN.out] at this
      exact this)
    have HW := Lib.hid (fun W' (hg : Grows w9 W') => relayWorks_any W' (HT.out.grows (grows_trans _ _ _ R9.out.gr hg)))
    obtain ⟨d0, d1, d2, d3, d4, d5, d6, d7, d8, d9, d10, d11, d12, d13, d14, d15, d16, d17, zd⟩ := dat_of R9.out.bp
    go_wp2_with fail
    have hwn := HFW.out.1
    have hnn : (((n5 : Int) + 1) != ((n5 : Int) + 1)) = false := bne_self_eq_false _
    refine wp_region_reg (by kernel_rfl) (by kernel_rfl) ?_
    repeat (first | go_big_quiet_step ((first | (go_at_call 10; refine class_same (HL9.out _ (below_reg _ _)) ⟨_, rfl⟩) | (go_at_call 15; refine class_same (one01_t _) ⟨_, rfl⟩))) | quiet_step ((first | (go_at_call 10; refine class_same (HL9.out _ (below_reg _ _)) ⟨_, rfl⟩) | (go_at_call 15; refine class_same (one01_t _) ⟨_, rfl⟩))))
    refine wpQuiet_nil ?_
    intro _ hcw1
    obtain ⟨pq, hcw2⟩ := hcw1
    subst hcw2
    obtain ⟨w10, e10, hg10⟩ : ∃ w10, reg w9 pq = w10 ∧ Grows w9 w10 := ⟨_, rfl, below_reg _ _⟩
    rw [e10]
    have HG10 := Lib.hid hg10
    clear e10 hg10 hwn hnn d0 d1 d2 d3 d4 d5 d6 d7 d8 d9 d10 d11 d12 d13 d14 d15 d16 d17 zd
    go_wp2_with fail
    refine (HW.out _ HG10.out).mono ?_
    rintro e w11 ⟨rfl, hg11⟩
    have HG11 := Lib.hid (grows_trans _ _ _ R9.out.gr (grows_trans _ _ _ HG10.out hg11))
    clear hg11
    go_wp2_with fail
    go_ret
    exact ⟨rfl, HG11.out⟩
  · have e1 : (er == 0) = false := by simp [h0]
    have e2 : (er != er) = false := bne_self_eq_false _
    have H0 := Lib.hid h0
    have R9' := Lib.hid (show RfAt w w9 base rb sb tb mb M me nn B p (c + 1 + 1) (rdc me nn B (.slice a5 n5 c5) M) b.cells kv9 (l1.map tv) from by have := R9.out; rw [if_neg h0] at this; exact this)
    clear R9 h0
    have HL9 := Lib.hid (fun W' (hg : Grows w9 W') => show Calls Tryd.prog 10 #[.pointer (some ⟨rb, 0, none⟩)] W' (fun e w'' => e = .returned (.int .i64 (n5 : Int)) ∧ W' = w'') from by
      have := rlen_any (R9'.out.rel.grows hg)
      rw [HLEN.out] at this
      exact this)
    obtain ⟨d0, d1, d2, d3, d4, d5, d6, d7, d8, d9, d10, d11, d12, d13, d14, d15, d16, d17, zd⟩ := dat_of R9'.out.bp
    go_wp2_with fail
    have hwn := HFW.out.2
    have hnn : ((n5 : Int) != (n5 : Int)) = false := bne_self_eq_false _
    refine wp_region_reg (by kernel_rfl) (by kernel_rfl) ?_
    repeat (first | go_big_quiet_step ((first | (go_at_call 10; refine class_same (HL9.out _ (below_reg _ _)) ⟨_, rfl⟩) | (go_at_call 15; refine class_same (one01_f _) ⟨_, rfl⟩))) | quiet_step ((first | (go_at_call 10; refine class_same (HL9.out _ (below_reg _ _)) ⟨_, rfl⟩) | (go_at_call 15; refine class_same (one01_f _) ⟨_, rfl⟩))))
    refine wpQuiet_nil ?_
    intro _ hcw1
    obtain ⟨pq, hcw2⟩ := hcw1
    subst hcw2
    obtain ⟨w10, e10, hg10⟩ : ∃ w10, reg w9 pq = w10 ∧ Grows w9 w10 := ⟨_, rfl, below_reg _ _⟩
    rw [e10]
    have R10 := Lib.hid (R9'.out.grows hg10)
    have HG10 := Lib.hid hg10
    clear e10 hg10 hwn hnn d0 d1 d2 d3 d4 d5 d6 d7 d8 d9 d10 d11 d12 d13 d14 d15 d16 d17 zd
    go_wp2_with fail
    refine (HL9.out _ HG10.out).mono ?_
    rintro e w11 ⟨rfl, rfl⟩
    obtain ⟨k0, k1, k2, k3, k4, k5, k6, k7, k8, k9, k10, k11, k12, k13, k14, k15, k16, kz⟩ := actc_of R10.out.bq
    have e3 : ((n5 : Int) == (n5 : Int)) = true := beq_self_eq_true _
    have e4 : (er == er) = true := beq_self_eq_true _
    go_wp2_with fail
    refine (rtake_any b.tol b.now b.x R10.out.rel HU.out R10.out.rel.base_le).mono ?_
    intro e w11 ht
    obtain ⟨rfl, kv11, hr11⟩ := R10.out.to ht
    rw [EER.out]
    have G11 := Lib.hid hr11.gr
    clear ht hr11 k0 k1 k2 k3 k4 k5 k6 k7 k8 k9 k10 k11 k12 k13 k14 k15 k16 kz
    go_wp2_with fail
    refine (relayWorks_any _ (HT.out.grows G11.out)).mono ?_
    rintro e w12 ⟨rfl, hg12⟩
    have G12 := Lib.hid (grows_trans _ _ _ G11.out hg12)
    clear hg12
    go_wp2_with fail
    go_ret
    exact ⟨rfl, G12.out⟩
end Go.Proofs.YtgjieoljfcfacaaDoor
