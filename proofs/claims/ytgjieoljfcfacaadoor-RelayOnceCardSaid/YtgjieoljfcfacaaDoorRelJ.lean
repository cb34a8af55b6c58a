/- A call, of both: Take. -/
import Derived.Test.YtgjieoljfcfacaaDoorRelM
import Derived.Test.YtgjieoljfcfacaaDoorRelX
namespace Go.Proofs.YtgjieoljfcfacaaDoor
open Go.RowKit Go.Sort
set_option maxHeartbeats 4000000
set_option maxRecDepth 100000
/-- A relay and the document's rows, side by side, in memory that is new behind W0. -/
structure RD (W0 w : World) (base rb sb tb mb : Nat) (kv : Value) (M : Nat) (me n : Int) (B : BV) (v : Value) (l : List DR) : Prop where
  rel : RelayAt w base rb sb tb kv mb (l.map tv) M me n B
  own : ROwn w base v l
  low : W0.heap.size ≤ base
  gr : Grows W0 w
section
variable {W0 w w' : World} {base rb sb tb mb : Nat} {kv v : Value} {M : Nat} {me n : Int} {B : BV} {l : List DR}
theorem RD.grows (h : RD W0 w base rb sb tb mb kv M me n B v l) (hg : Grows w w') : RD W0 w' base rb sb tb mb kv M me n B v l := ⟨h.rel.grows hg, own_grows h.own hg, h.low, grows_trans _ _ _ h.gr hg⟩
/-- .. a box of another type is set. -/
theorem RD.set {p : Nat} {cs : Array Value} {T : TypeId} (h : RD W0 w base rb sb tb mb kv M me n B v l) (hp : w.heap[p]? = some (.cells cs T (0, 0))) (hc : Chg (fun j => j = p) w w') (h0 : W0.heap.size ≤ p)
    (h1 : T ≠ TTI := by decide) (h2 : T ≠ 29 := by decide) (h3 : T ≠ TRL := by decide) (h4 : T ≠ TSE := by decide) (h5 : T ≠ 131 := by decide) : RD W0 w' base rb sb tb mb kv M me n B v l :=
  ⟨h.rel.setBox hp hc h1 h2 h3 h4, row_box h.own hp hc h5, h.low, grows_chg h.gr hc fun j hj => by rw [hj]; exact h0⟩
/-- The blocks that a call on both changes. -/
abbrev SD (tb : Nat) (kv : Value) (mb p : Nat) (j : Nat) : Prop := TabS tb kv mb j ∨ j = p
end
theorem sd_low {w : World} {base rb sb tb mb most p n0 : Nat} {kv : Value} {m : List (KW × Value)} {me n : Int} {B : BV} (h : RelayAt w base rb sb tb kv mb m most me n B) (h0 : n0 ≤ base) (hp : n0 ≤ p) : ∀ j, SD tb kv mb p j → n0 ≤ j := by
  rintro j ((hs | hs | hs) | rfl)
  · have := h.seen.tab.bt; omega
  · have := h.seen.tab.bm; omega
  · have := (h.seen.tab.own.lt _ hs).1; omega
  · exact hp
theorem chg_tab {w w4 w' : World} {tb mb p : Nat} {kv : Value} (hg : Grows w w4) (hE : Chg (SD tb kv mb p) w4 w') (hp : w.heap.size ≤ p) : Chg (TabS tb kv mb) w w' := ((Chg.ofGrows hg).trans hE).mono fun k hk hs => hs.elim id (fun e => by omega)
theorem chg_box {w w4 w' : World} {tb mb p : Nat} {kv : Value} (hg : Grows w w4) (hE : Chg (fun j => j = p) w4 w') (hp : w.heap.size ≤ p) : Chg (TabS tb kv mb) w w' := chg_tab hg (hE.mono (T := SD tb kv mb p) fun _ _ hj => Or.inr hj) hp
def OneTo (W0 w : World) (base rb sb tb mb : Nat) (kv : Value) (M : Nat) (me n : Int) (B : BV) (l' : List DR) (e : Ending) (w' : World) : Prop := ∃ kv' a nn c, e = .returned (.tuple #[rdv me n B (.slice a nn c) M, .bool true]) ∧ RD W0 w' base rb sb tb mb kv' M me n B (.slice a nn c) l' ∧ Chg (TabS tb kv mb) w w'
theorem takeL_tv (l : List DR) (M : Nat) (me n : Int) (B : BV) (tol now : Int) (x : PW) : (takeL l M me n B tol now x).map tv = if rchk (l.map tv) M me n B tol now x = 0 then insT (l.map tv) x.k (.int .i64 (tillI B x.k.t)) else l.map tv := by
  unfold takeL
  split
  · rw [insT_tv]
  · rfl
/-- Whether the call and the store have come up. -/
structure OJ (base rb sb tb mb : Nat) (kv : Value) (M : Nat) (me n : Int) (B : BV) (p : Nat) (m0 m1 : List (KW × Value)) (fin : Array Value) (x y : Bool) (w : World) : Prop where
  box : w.heap[p]? = some (.cells (bif y then fin else zrd) TRR (0, 0))
  rel : ∃ kv', RelayAt w base rb sb tb kv' mb (bif x then m1 else m0) M me n B ∧ (x = false → kv' = kv)
section
variable {w w' : World} {base rb sb tb mb : Nat} {kv : Value} {M : Nat} {me n : Int} {B : BV} {p : Nat} {m0 m1 : List (KW × Value)} {fin : Array Value} {x y : Bool}
theorem OJ.grows (h : OJ base rb sb tb mb kv M me n B p m0 m1 fin x y w) (hg : Grows w w') : OJ base rb sb tb mb kv M me n B p m0 m1 fin x y w' := ⟨box_grows h.box hg, by obtain ⟨kv', h1, h2⟩ := h.rel; exact ⟨kv', h1.grows hg, h2⟩⟩
theorem OJ.store (h : OJ base rb sb tb mb kv M me n B p m0 m1 fin x false w) (hc : Chg (fun j => j = p) w w') (hb : w'.heap[p]? = some (.cells fin TRR (0, 0))) : OJ base rb sb tb mb kv M me n B p m0 m1 fin x true w' := ⟨hb, by obtain ⟨kv', h1, h2⟩ := h.rel; exact ⟨kv', h1.setBox h.box hc, h2⟩⟩
theorem OJ.old (h : OJ base rb sb tb mb kv M me n B p m0 m1 fin false y w) : RelayAt w base rb sb tb kv mb m0 M me n B := by
  obtain ⟨kv', h1, h2⟩ := h.rel
  rw [h2 rfl] at h1
  exact h1
theorem OJ.call {r : Value} {e : Ending} (h : OJ base rb sb tb mb kv M me n B p m0 m1 fin false y w) (ht : RelayTo w base rb sb tb kv mb m1 M me n B r e w') : e = .returned r ∧ OJ base rb sb tb mb kv M me n B p m0 m1 fin true y w' ∧ Chg (SD tb kv mb p) w w' := by
  obtain ⟨rfl, kv', k1, k2⟩ := RelayTo.next h.old ht
  exact ⟨rfl, ⟨box_chg h.box k2 (h.old.notS h.box), kv', k1, fun hc => by cases hc⟩, k2.mono fun j _ hj => .inl hj⟩
end
/-- The call is of kind 0 or 1. -/
theorem one_take {W0 w : World} {base rb sb tb mb M : Nat} {kv v : Value} {l : List DR} {me n : Int} {B : BV} (q tol now : Int) (x : PW) (s : Nat) (f : Int) (h : RD W0 w base rb sb tb mb kv M me n B v l) (hm : l.length ≤ 10000) (hU : UOk B.b0 B.b1 B.b3 B.b10)
    (hq : q.tmod 5 = 0 ∨ q.tmod 5 = 1) :
    Calls Tryd.prog 13 #[.pointer (some ⟨rb, 0, none⟩), rdv me n B v M, .agg (actC q tol now x s f)] w (OneTo W0 w base rb sb tb mb kv M me n B (takeL l M me n B tol now x)) := by
  obtain ⟨ln, eln⟩ : ∃ ln, l.length = ln := ⟨_, rfl⟩
  obtain ⟨a, cap, rfl⟩ := ROwn.len h.own eln
  obtain ⟨b, ep⟩ : ∃ b, w.heap.size = b := ⟨_, rfl⟩
  have hq2 := three_box w (.cells (rdc me n B (.slice a ln cap) M) TRR) (.cells (actC q tol now x s f) TRA) (.cells zrd TRR)
  obtain ⟨W, eW⟩ : ∃ W, ((w.alloc (.cells (rdc me n B (.slice a ln cap) M) TRR)).alloc (.cells (actC q tol now x s f) TRA)).alloc (.cells zrd TRR) = W := ⟨_, rfl⟩
  have hg : Grows w W := by rw [← eW]; exact bl_alloc (bl_alloc (bl_alloc (Below.refl _ _) _) _) _
  rw [eW, ep] at hq2
  have HD := Lib.hid (h.grows hg)
  have HQ := Lib.hid hq2
  have HGW := Lib.hid hg
  have HB0 := Lib.hid (show W0.heap.size ≤ b by rw [← ep]; exact h.gr.size)
  have HM := Lib.hid (And.intro hm hU)
  have A1 := actc_of hq2.2.1
  clear h hm hU hg hq2
  simp only [rdv, rdc] at eW ⊢
  go_enter Tryd.func13, Tryd.ntmps13
  have A2 := A1
  obtain ⟨k0, k1, k2, k3, k4, k5, k6, k7, k8, k9, k10, k11, k12, k13, k14, k15, k16, kz⟩ := A1
  have HDT := Lib.hid ((dtake_any (me := me) (n := n) (M := M) tol now x HD.out.own HM.out.1 HD.out.rel.base_le HM.out.2))
  have hTL := takeL_tv l M me n B tol now x
  obtain ⟨er, eer⟩ : ∃ er, rchk (l.map tv) M me n B tol now x = er := ⟨_, rfl⟩
  obtain ⟨tl, etl⟩ : ∃ tl, takeL l M me n B tol now x = tl := ⟨_, rfl⟩
  have HTK := Lib.hid (fun W' (h : RelayAt W' base rb sb tb kv mb (l.map tv) M me n B) => rtake_any tol now x h HM.out.2 h.base_le)
  rw [etl, eer] at hTL HDT
  rw [eer] at HTK
  rw [← hTL] at HTK
  rw [etl]
  clear eer etl hTL
  rcases hq with hq0 | hq0
  all_goals
    go_wp2_with (refine wpList_load_box rfl 41 (.tmp 4) rfl b (rdc me n B (.slice a ln cap) M) rfl (Tryd.isAgg41 _) (Tryd.sizeOf41 _) HQ.out.1 ?_)
    refine HDT.out.mono ?_
    rintro e w2 ⟨a2, n2, c2, rfl, hn2, hg2, ho2⟩
    have Q2 := Lib.hid (And.intro (box_grows HQ.out.1 hg2) (And.intro (box_grows HQ.out.2.1 hg2) (box_grows HQ.out.2.2 hg2)))
    have R2 := Lib.hid (HD.out.rel.grows hg2)
    have O2 := Lib.hid ho2
    have N2 := Lib.hid hn2
    have G2 := Lib.hid (grows_trans _ _ _ HD.out.gr hg2)
    have GX2 := Lib.hid (grows_trans _ _ _ HGW.out hg2)
    obtain ⟨p, epp⟩ : ∃ p, w2.heap.size = p := ⟨_, rfl⟩
    obtain ⟨w3, e3⟩ : ∃ w3, w2.alloc (.cells zrd TRR) = w3 := ⟨_, rfl⟩
    have g3 : Grows w2 w3 := by rw [← e3]; exact bl_alloc (Below.refl _ _) _
    have hp3 : w3.heap[p]? = some (.cells zrd TRR (0, 0)) := by rw [← e3, ← epp]; exact heap_alloc_new w2 _
    have G3 := Lib.hid (And.intro g3 hp3)
    clear hg2 ho2 hn2 g3 hp3 k0 k1 k2 k3 k4 k5 k6 k7 k8 k9 k10 k11 k12 k13 k14 k15 k16 kz A2 eW
    go_wp2_with (first | (refine wpList_store_box rfl 41 (.tmp 8) (.tmp 30) rfl p (rdc me n B (.slice a2 n2 c2) M) rfl rfl (Tryd.sizeOf41 _) G3.out.2 rfl (rdc_one _ _ _ _ _ _ _) ?_; intro w4 h4 c4))
    have R4 := Lib.hid ((R2.out.grows G3.out.1).setBox G3.out.2 c4)
    have O4 := Lib.hid (row_box (own_grows O2.out G3.out.1) G3.out.2 c4)
    have hl2 := box_lt Q2.out.2.2
    have Q4 := Lib.hid (And.intro (box_chg (box_grows Q2.out.2.1 G3.out.1) c4 (by omega)) (And.intro (box_chg (box_grows Q2.out.2.2 G3.out.1) c4 (by omega)) h4))
    have GW4 := Lib.hid (grows_chg (grows_trans _ _ _ G2.out G3.out.1) c4 fun j hj => by have := HB0.out; omega)
    have NP := Lib.hid (show p ≠ b + 1 + 1 by omega)
    have GX4 := Lib.hid (grows_chg (grows_trans _ _ _ GX2.out G3.out.1) c4 fun j hj => by omega)
    have HT4 := Lib.hid (fun w' (hE : Chg (SD tb kv mb (b + 1 + 1)) w4 w') => show _ ∧ _ ∧ _ from And.intro (box_chg Q4.out.1 hE (fun hs => hs.elim (R4.out.notS Q4.out.1) (fun e => by omega))) (And.intro (box_chg Q4.out.2.2 hE (fun hs => hs.elim (R4.out.notS Q4.out.2.2) NP.out)) (hE.own O4.out (fun j hj hs => hs.elim (ROwn.tab O4.out R4.out.seen.tab (by decide) j hj) (fun e => by
      obtain ⟨cur, hcur⟩ := row_ty O4.out hj
      rw [e, Q4.out.2.1] at hcur
      injection hcur with hcur
      injection hcur with _ hcur
      exact absurd hcur (by decide))))))
    clear h4 c4 hl2 epp e3
    refine WideN.wp_flag (SD tb kv mb (b + 1 + 1)) [.fix _ (.agg (rdc me n B (.slice a2 n2 c2) M)), .fix _ (.pointer (some ⟨rb, 0, none⟩)), .fix _ (.pointer (some ⟨b + 1, 1, none⟩)), .fix _ (.int .i64 tol), .fix _ (.pointer (some ⟨b + 1, 2, none⟩)), .fix _ (.int .i64 now), .fix _ (.pointer (some ⟨b + 1, 3, none⟩)), .fix _ x.val, .fix _ (.int .i64 er), .fix _ (.int .i64 er), .fix _ (.bool true), .none _, .fix _ (.bool true)] (OJ base rb sb tb mb kv M me n B (b + 1 + 1) (l.map tv) (tl.map tv) (rdc me n B (.slice a2 n2 c2) M)) 8 11 ?_ (by kernel_rfl) (by kernel_rfl) rfl rfl (fun vals => by simp [Act.over, dstsOf, overL]; rfl) ?_ ?_ ?_
    · exact OJ.grows ⟨Q4.out.2.1, kv, R4.out, fun _ => rfl⟩ (bl_drew (Below.refl _ _))
    · refine ⟨?_, ?_, ?_, ?_, ?_, ?_, ?_, ?_, ?_, ?_, ?_, ?_, ?_, trivial⟩
      all_goals
        intro vals w' x' y' hE hJ hx hy _ hn R hR
        simp [WideN.needsOf, Region.binds, dstAt, gOf, SG.fix, SG.none] at hn hR hy hx
        have HR0 := Lib.hid hR
        try simp only [hn] at hR
        have HR := Lib.hid hR
        have HJ := Lib.hid hJ
        have Q := Lib.hid (And.intro (HT4.out w' hE).1 (HT4.out w' hE).2.1)
        clear hR hE hJ
      · go_wp2_with (refine wpList_load_box rfl 41 (.tmp 8) rfl p (rdc me n B (.slice a2 n2 c2) M) rfl (Tryd.isAgg41 _) (Tryd.sizeOf41 _) Q.out.2 ?_)
        exact HR.out _ _ rfl (Chg.refl _ _) HJ.out
      · go_wp2_with fail
        exact HR.out _ _ rfl (Chg.refl _ _) HJ.out
      · go_wp2_with fail
        exact HR.out _ _ rfl (Chg.refl _ _) HJ.out
      · obtain ⟨k0, k1, k2, k3, k4, k5, k6, k7, k8, k9, k10, k11, k12, k13, k14, k15, k16, kz⟩ := actc_of Q.out.1
        go_wp2_with fail
        exact HR.out _ _ rfl (Chg.refl _ _) HJ.out
      · go_wp2_with fail
        exact HR.out _ _ rfl (Chg.refl _ _) HJ.out
      · obtain ⟨k0, k1, k2, k3, k4, k5, k6, k7, k8, k9, k10, k11, k12, k13, k14, k15, k16, kz⟩ := actc_of Q.out.1
        go_wp2_with fail
        exact HR.out _ _ rfl (Chg.refl _ _) HJ.out
      · go_wp2_with fail
        exact HR.out _ _ rfl (Chg.refl _ _) HJ.out
      · obtain ⟨k0, k1, k2, k3, k4, k5, k6, k7, k8, k9, k10, k11, k12, k13, k14, k15, k16, kz⟩ := actc_of Q.out.1
        go_wp2_with fail
        exact HR.out _ _ rfl (Chg.refl _ _) HJ.out
      · subst hx
        go_wp2_with fail
        refine (HTK.out w' HJ.out.old).mono ?_
        rintro e w5 ht
        obtain ⟨rfl, j5, c5⟩ := HJ.out.call ht
        have J5 := Lib.hid (And.intro c5 j5)
        clear ht j5 c5
        go_wp2_with fail
        exact HR.out _ _ rfl J5.out.1 J5.out.2
      · go_wp2_with fail
        exact HR.out _ _ rfl (Chg.refl _ _) HJ.out
      · go_wp2_with fail
        exact HR.out _ _ (by simp) (Chg.refl _ _) HJ.out
      · subst hy
        refine wpList_store_box rfl 41 (.tmp 6) (.tmp 32) rfl (b + 1 + 1) (rdc me n B (.slice a2 n2 c2) M) rfl (by first | exact hn | exact hn.1) (Tryd.sizeOf41 _) HJ.out.box rfl (rdc_one _ _ _ _ _ _ _) ?_
        intro w5 h5 c5
        have J5 := Lib.hid (And.intro (c5.mono (T := SD tb kv mb (b + 1 + 1)) fun j _ hj => Or.inr hj) (HJ.out.store c5 h5))
        clear h5 c5
        go_wp2_with fail
        exact HR.out undef _ J5.out.1 J5.out.2
      · go_wp2_with fail
        exact HR.out _ _ rfl (Chg.refl _ _) HJ.out
    · intro vals w' hE hJ hn
      have n7 : vals 7 = .bool true := hn 12 7 rfl
      obtain ⟨kv', hr, -⟩ := hJ.rel
      have O9 := Lib.hid (And.intro (HT4.out w' hE).2.2 (And.intro hr (And.intro hJ.box (grows_chg GW4.out hE (sd_low R4.out HD.out.low (by have := HB0.out; omega))))))
      simp only [n7]
      have CH := Lib.hid (chg_tab GX4.out hE (by omega))
      clear hn hE hJ n7 hr
      go_wp2_with fail
      exact bodyPost_ret (results_box2 Tryd.results13 rfl (Tryd.isAgg41 _) (Tryd.sizeOf41 _) O9.out.2.2.1) rfl ⟨kv', a2, n2, c2, rfl, ⟨O9.out.2.1, O9.out.1, HD.out.low, O9.out.2.2.2⟩, CH.out⟩
end Go.Proofs.YtgjieoljfcfacaaDoor
