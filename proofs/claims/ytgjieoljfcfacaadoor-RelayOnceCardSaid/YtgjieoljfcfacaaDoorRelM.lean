/- The law's 'made': a relay and the document's, side by side. -/
import Derived.Test.YtgjieoljfcfacaaDoorRelI
import Derived.Test.YtgjieoljfcfacaaDoorFlag
import Derived.Test.YtgjieoljfcfacaaDoorLateD
import Derived.Test.YtgjieoljfcfacaaDoorRelQ
namespace Go.Proofs.YtgjieoljfcfacaaDoor
open Go.RowKit Go.Sort
set_option maxHeartbeats 4000000
set_option maxRecDepth 100000
theorem results_box3 {P : Program} {fn : Func} {d u : Tmp} {t b : Nat} {tmps : Array Value} {w : World} {vs : Array Value} {T : TypeId} (h : fn.results = #[.tmp u, .cell d t]) (hd : tmps.getD d undef = .pointer (some ⟨b, 0, none⟩)) (hag : (isAgg t).run P w = .ok true w) (hsz : (sizeOf t).run P w = .ok vs.size w) (hb : w.heap[b]? = some (.cells vs T (0, 0))) :
    (results fn tmps).run P w = .ok (.tuple #[tmps.getD u undef, .agg vs]) w := by
  have hr := run_var_box (P := P) w t b vs hag hsz hb
  rw [Array.getD_eq_getD_getElem?] at hd
  simp [results, h, hd, asAddr, hr]
theorem RelayAt.chg {S : Nat → Prop} {w w' : World} {base rb sb tb mb most : Nat} {kv : Value} {m : List (KW × Value)} {me n : Int} {B : BV} (h : RelayAt w base rb sb tb kv mb m most me n B) (hc : Chg S w w') (hS : ∀ j, base ≤ j → ¬ S j) : RelayAt w' base rb sb tb kv mb m most me n B :=
  ⟨box_chg h.ob hc (hS _ h.br), ⟨box_chg h.seen.ob hc (hS _ h.seen.bs), h.seen.tab.chg hc (hS _ h.seen.tab.bt) (hS _ h.seen.tab.bm) (fun j hj => hS _ (h.seen.tab.own.lt _ hj).1), h.seen.bs⟩, h.br⟩
theorem uok_of {b0 b1 b3 b7 b10 b11 : Int} (h : BOk b0 b1 b3 b7 b10 b11) : UOk b0 b1 b3 b10 := by
  obtain ⟨h1, h2, h3, h4, h5, h6, h7, h8, h9, -⟩ := h
  have e : lateI b0 b3 b1 b0 b10 = b0 * (b3 + b10) + b1 := by
    unfold lateI
    rw [if_neg (by omega)]
    have e1 : wrap64 (b3 + b10) = b3 + b10 := by unfold wrap64; omega
    have m1 : 0 ≤ b0 * (b3 + b10) := Int.mul_nonneg (by omega) (by omega)
    have m2 : b0 * (b3 + b10) ≤ 63 * (b3 + b10) := Int.mul_le_mul_of_nonneg_right h2 (by omega)
    rw [e1]
    have e2 : wrap64 (b0 * (b3 + b10)) = b0 * (b3 + b10) := by unfold wrap64; omega
    rw [e2]
    unfold wrap64
    omega
  have m1 : 0 ≤ b0 * (b3 + b10) := Int.mul_nonneg (by omega) (by omega)
  have m2 : b0 * (b3 + b10) ≤ 63 * (b3 + b10) := Int.mul_le_mul_of_nonneg_right h2 (by omega)
  refine ⟨by omega, by omega, by rw [e]; omega, by rw [e]; omega⟩
/-- The law's configuration: the group's, the node, how many there are, how many names. -/
abbrev rcfg (n f dmin dmax rho slew rnd win att seen hist fly quota body : Int) (la : Option Addr) (ll lc : Nat) (me nn most : Int) : Value := .agg #[.int .i64 n, .slice la ll lc, .int .i64 f, .int .i64 dmin, .int .i64 dmax, .int .i64 rho, .int .i64 slew, .int .i64 rnd, .int .i64 win, .int .i64 att, .int .i64 seen, .int .i64 hist, .int .i64 fly, .int .i64 quota, .int .i64 body, .int .i64 me, .int .i64 nn, .int .i64 most]
def MadeTo (w : World) (me n most : Int) (e : Ending) (w' : World) : Prop := ∃ (B : BV) (base rb sb tb mb : Nat), BOk B.b0 B.b1 B.b3 B.b7 B.b10 B.b11 ∧ w.heap.size ≤ base ∧ e = .returned (.tuple #[.pointer (some ⟨rb, 0, none⟩), rdv me n B (.slice none 0 0) (mostOfI most)]) ∧ Grows w w' ∧ RelayAt w' base rb sb tb (.slice none 0 0) mb [] (mostOfI most) me n B
/-- A box that a store sets: whether it has. -/
def BoxJ (b : Nat) (z fin : Array Value) (T : TypeId) (_ y : Bool) (w : World) : Prop := w.heap[b]? = some (.cells (bif y then fin else z) T (0, 0))
theorem BoxJ.grows {b : Nat} {z fin : Array Value} {T : TypeId} {x y : Bool} {w w' : World} (h : BoxJ b z fin T x y w) (hg : Grows w w') : BoxJ b z fin T x y w' := box_grows h hg
theorem BoxJ.lt {b : Nat} {z fin : Array Value} {T : TypeId} {x y : Bool} {w : World} (h : BoxJ b z fin T x y w) : b < w.heap.size := box_lt h
/-- A new relay. -/
def NewRel (b M : Nat) (me n : Int) (B : BV) (v : Value) (w : World) : Prop := ∃ base rb sb tb mb, b < base ∧ v = .pointer (some ⟨rb, 0, none⟩) ∧ RelayAt w base rb sb tb (.slice none 0 0) mb [] M me n B
def sgNewRel (b M : Nat) (me n : Int) (B : BV) : SG (Chg fun j => j = b) := ⟨NewRel b M me n B, fun _ _ _ ⟨base, rb, sb, tb, mb, h1, h2, h3⟩ hc => ⟨base, rb, sb, tb, mb, h1, h2, h3.chg hc fun j hj e => by omega⟩⟩
theorem made_any (n f dmin dmax rho slew rnd win att seen hist fly quota body : Int) (la : Option Addr) (ll lc : Nat) (me nn most : Int) (w : World) :
    Calls Tryd.prog 7 #[rcfg n f dmin dmax rho slew rnd win att seen hist fly quota body la ll lc me nn most] w (MadeTo w me nn most) := by
  obtain ⟨c, ec⟩ : ∃ c, w.heap.size = c := ⟨_, rfl⟩
  have hq2 := two_new w (.cells #[.int .i64 n, .slice la ll lc, .int .i64 f, .int .i64 dmin, .int .i64 dmax, .int .i64 rho, .int .i64 slew, .int .i64 rnd, .int .i64 win, .int .i64 att, .int .i64 seen, .int .i64 hist, .int .i64 fly, .int .i64 quota, .int .i64 body, .int .i64 me, .int .i64 nn, .int .i64 most] 26) (.cells zrd TRR)
  obtain ⟨W, eW⟩ : ∃ W, (w.alloc (.cells #[.int .i64 n, .slice la ll lc, .int .i64 f, .int .i64 dmin, .int .i64 dmax, .int .i64 rho, .int .i64 slew, .int .i64 rnd, .int .i64 win, .int .i64 att, .int .i64 seen, .int .i64 hist, .int .i64 fly, .int .i64 quota, .int .i64 body, .int .i64 me, .int .i64 nn, .int .i64 most] 26)).alloc (.cells zrd TRR) = W := ⟨_, rfl⟩
  have hg : Grows w W := by rw [← eW]; exact bl_alloc (bl_alloc (Below.refl _ _) _) _
  rw [eW, ec] at hq2
  have HG := Lib.hid hg
  have HQ := Lib.hid hq2
  obtain ⟨k0, -⟩ := cell_in hq2.1 0 rfl
  obtain ⟨k1, -⟩ := cell_in hq2.1 1 rfl
  obtain ⟨k2, -⟩ := cell_in hq2.1 2 rfl
  obtain ⟨k3, -⟩ := cell_in hq2.1 3 rfl
  obtain ⟨k4, -⟩ := cell_in hq2.1 4 rfl
  obtain ⟨k5, -⟩ := cell_in hq2.1 5 rfl
  obtain ⟨k6, -⟩ := cell_in hq2.1 6 rfl
  obtain ⟨k7, -⟩ := cell_in hq2.1 7 rfl
  obtain ⟨k8, -⟩ := cell_in hq2.1 8 rfl
  obtain ⟨k9, -⟩ := cell_in hq2.1 9 rfl
  obtain ⟨k10, -⟩ := cell_in hq2.1 10 rfl
  obtain ⟨k11, -⟩ := cell_in hq2.1 11 rfl
  obtain ⟨k12, -⟩ := cell_in hq2.1 12 rfl
  obtain ⟨k13, -⟩ := cell_in hq2.1 13 rfl
  obtain ⟨k14, -⟩ := cell_in hq2.1 14 rfl
  obtain ⟨k15, -⟩ := cell_in hq2.1 15 rfl
  obtain ⟨k16, -⟩ := cell_in hq2.1 16 rfl
  obtain ⟨k17, -⟩ := cell_in hq2.1 17 rfl
  have kz := box_lt hq2.1
  clear hg hq2
  go_enter Tryd.func7, Tryd.ntmps7
  go_wp2_with fail
  refine (ours_any _ _ _ _ _ _ _ _ _ _ _ _ _ _ _ _ _ _).mono ?_
  rintro e w1 ⟨v1, ⟨b0, b1, b2, b3, b4, b5, b6, b7, b8, b9, b10, b11, b12, b13, rfl, hB⟩, rfl, hg1⟩
  have HB := Lib.hid hB
  have HG1 := Lib.hid (show Grows W w1 from hg1)
  have HQ1 := Lib.hid (And.intro (box_grows HQ.out.1 hg1) (box_grows HQ.out.2 hg1))
  clear hB hg1
  go_wp2_with fail
  obtain ⟨d, ed⟩ : ∃ d, w1.heap.size = d := ⟨_, rfl⟩
  have hq3 := two_new w1 (.cells #[.int .i64 b0, .int .i64 b1, .int .i64 b2, .int .i64 b3, .int .i64 b4, .int .i64 b5, .int .i64 b6, .int .i64 b7, .int .i64 b8, .int .i64 b9, .int .i64 b10, .int .i64 b11, .int .i64 b12, .int .i64 b13] 68) (.cells #[.int .i64 b0, .int .i64 b1, .int .i64 b2, .int .i64 b3, .int .i64 b4, .int .i64 b5, .int .i64 b6, .int .i64 b7, .int .i64 b8, .int .i64 b9, .int .i64 b10, .int .i64 b11, .int .i64 b12, .int .i64 b13] 36)
  have hg3 := (bl_alloc (bl_alloc (Below.refl _ _) _) _ : Grows w1 ((w1.alloc (.cells #[.int .i64 b0, .int .i64 b1, .int .i64 b2, .int .i64 b3, .int .i64 b4, .int .i64 b5, .int .i64 b6, .int .i64 b7, .int .i64 b8, .int .i64 b9, .int .i64 b10, .int .i64 b11, .int .i64 b12, .int .i64 b13] 68)).alloc (.cells #[.int .i64 b0, .int .i64 b1, .int .i64 b2, .int .i64 b3, .int .i64 b4, .int .i64 b5, .int .i64 b6, .int .i64 b7, .int .i64 b8, .int .i64 b9, .int .i64 b10, .int .i64 b11, .int .i64 b12, .int .i64 b13] 36)))
  generalize ((w1.alloc (.cells #[.int .i64 b0, .int .i64 b1, .int .i64 b2, .int .i64 b3, .int .i64 b4, .int .i64 b5, .int .i64 b6, .int .i64 b7, .int .i64 b8, .int .i64 b9, .int .i64 b10, .int .i64 b11, .int .i64 b12, .int .i64 b13] 68)).alloc (.cells #[.int .i64 b0, .int .i64 b1, .int .i64 b2, .int .i64 b3, .int .i64 b4, .int .i64 b5, .int .i64 b6, .int .i64 b7, .int .i64 b8, .int .i64 b9, .int .i64 b10, .int .i64 b11, .int .i64 b12, .int .i64 b13] 36)) = W2 at hq3 hg3 ⊢
  rw [ed] at hq3 ⊢
  obtain ⟨B, eB⟩ : ∃ B : BV, (⟨b0, b1, b2, b3, b4, b5, b6, b7, b8, b9, b10, b11, b12, b13⟩ : BV) = B := ⟨_, rfl⟩
  obtain ⟨FI, eFI⟩ : ∃ FI, rdc me nn ⟨b0, b1, b2, b3, b4, b5, b6, b7, b8, b9, b10, b11, b12, b13⟩ (.slice none 0 0) (mostOfI most) = FI := ⟨_, rfl⟩
  have HEB := Lib.hid (And.intro eB eFI)
  have HG3 := Lib.hid (grows_trans _ _ _ HG1.out hg3)
  have HB3 := Lib.hid (And.intro hq3 (And.intro (box_grows HQ1.out.1 hg3) (box_grows HQ1.out.2 hg3)))
  have HLT := Lib.hid (And.intro (box_lt HQ1.out.2) ed)
  clear hq3 hg3 ed eB eFI eW k0 k1 k2 k3 k4 k5 k6 k7 k8 k9 k10 k11 k12 k13 k14 k15 k16 k17 kz
  refine WideN.wp_flag (fun j => j = c + 1) [.fix _ (.pointer (some ⟨c, 15, none⟩)), .fix _ (.int .i64 me), .fix _ (.pointer (some ⟨c, 16, none⟩)), .fix _ (.int .i64 nn), .fix _ (bnd b0 b1 b2 b3 b4 b5 b6 b7 b8 b9 b10 b11 b12 b13), .fix _ (.pointer (some ⟨c, 17, none⟩)), .fix _ (.int .i64 most), sgNewRel (c + 1) (mostOfI most) me nn B, .fix _ (.pointer (some ⟨c, 15, none⟩)), .fix _ (.int .i64 me), .fix _ (.pointer (some ⟨c, 16, none⟩)), .fix _ (.int .i64 nn), .fix _ (bnd b0 b1 b2 b3 b4 b5 b6 b7 b8 b9 b10 b11 b12 b13), .fix _ (.pointer (some ⟨c, 17, none⟩)), .fix _ (.int .i64 most), .fix _ (dval (.slice none 0 0) (mostOfI most)), .fix _ (.agg FI), sgNewRel (c + 1) (mostOfI most) me nn B, .none _] (BoxJ (c + 1) zrd FI TRR) 18 18 ?_ (by kernel_rfl) (by kernel_rfl) rfl rfl (fun vals => by simp [Act.over, dstsOf, overL]; rfl) ?_ ?_ ?_
  · exact box_grows HB3.out.2.2 (bl_drew (Below.refl _ _))
  · refine ⟨?_, ?_, ?_, ?_, ?_, ?_, ?_, ?_, ?_, ?_, ?_, ?_, ?_, ?_, ?_, ?_, ?_, ?_, ?_, trivial⟩
    all_goals
      intro vals w' x y hE hJ hx hy _ hn R hR
      simp [WideN.needsOf, Region.binds, dstAt, gOf, SG.fix, sgNewRel, SG.none] at hn hR hy
      have HR0 := Lib.hid hR
      try simp only [hn] at hR
      have HR := Lib.hid hR
      have HE := Lib.hid hE
      have HJ := Lib.hid hJ
      have q := box_chg HB3.out.2.1 hE (by omega)
      have q4 := box_chg HB3.out.1.1 hE (fun e => by have := HLT.out; omega)
      have q5 := box_chg HB3.out.1.2 hE (fun e => by have := HLT.out; omega)
      have Q := Lib.hid (And.intro q (And.intro q4 q5))
      clear hR hE hJ hx q q4 q5
    · go_wp2_with fail
      exact HR.out _ _ rfl (Chg.refl _ _) HJ.out
    · obtain ⟨k, -⟩ := cell_in Q.out.1 15 rfl
      have z := box_lt Q.out.1
      go_wp2_with fail
      exact HR.out _ _ rfl (Chg.refl _ _) HJ.out
    · go_wp2_with fail
      exact HR.out _ _ rfl (Chg.refl _ _) HJ.out
    · obtain ⟨k, -⟩ := cell_in Q.out.1 16 rfl
      have z := box_lt Q.out.1
      go_wp2_with fail
      exact HR.out _ _ rfl (Chg.refl _ _) HJ.out
    · go_wp2_with (refine wpList_load_box rfl 68 (.tmp 4) rfl d #[.int .i64 b0, .int .i64 b1, .int .i64 b2, .int .i64 b3, .int .i64 b4, .int .i64 b5, .int .i64 b6, .int .i64 b7, .int .i64 b8, .int .i64 b9, .int .i64 b10, .int .i64 b11, .int .i64 b12, .int .i64 b13] rfl (Tryd.isAgg68 _) (Tryd.sizeOf68 _) Q.out.2.1 ?_)
      exact HR.out _ _ rfl (Chg.refl _ _) HJ.out
    · go_wp2_with fail
      exact HR.out _ _ rfl (Chg.refl _ _) HJ.out
    · obtain ⟨k, -⟩ := cell_in Q.out.1 17 rfl
      have z := box_lt Q.out.1
      go_wp2_with fail
      exact HR.out _ _ rfl (Chg.refl _ _) HJ.out
    · go_wp2_with fail
      refine (rnew_r_any me nn most ⟨b0, b1, b2, b3, b4, b5, b6, b7, b8, b9, b10, b11, b12, b13⟩ w').mono ?_
      rintro e w3 ⟨rb, sb, rfl, hg3, ho3⟩
      go_wp2_with fail
      exact HR.out _ _ ⟨w'.heap.size + 1, rb, sb, _, _, by have := HJ.out.lt; omega, rfl, by rw [← HEB.out.1]; exact ho3⟩ (Chg.ofGrows hg3) (HJ.out.grows hg3)
    · go_wp2_with fail
      exact HR.out _ _ rfl (Chg.refl _ _) HJ.out
    · obtain ⟨k, -⟩ := cell_in Q.out.1 15 rfl
      have z := box_lt Q.out.1
      go_wp2_with fail
      exact HR.out _ _ rfl (Chg.refl _ _) HJ.out
    · go_wp2_with fail
      exact HR.out _ _ rfl (Chg.refl _ _) HJ.out
    · obtain ⟨k, -⟩ := cell_in Q.out.1 16 rfl
      have z := box_lt Q.out.1
      go_wp2_with fail
      exact HR.out _ _ rfl (Chg.refl _ _) HJ.out
    · go_wp2_with (refine wpList_load_box rfl 36 (.tmp 5) rfl (d + 1) #[.int .i64 b0, .int .i64 b1, .int .i64 b2, .int .i64 b3, .int .i64 b4, .int .i64 b5, .int .i64 b6, .int .i64 b7, .int .i64 b8, .int .i64 b9, .int .i64 b10, .int .i64 b11, .int .i64 b12, .int .i64 b13] rfl (Tryd.isAgg36 _) (Tryd.sizeOf36 _) Q.out.2.2 ?_)
      exact HR.out _ _ rfl (Chg.refl _ _) HJ.out
    · go_wp2_with fail
      exact HR.out _ _ rfl (Chg.refl _ _) HJ.out
    · obtain ⟨k, -⟩ := cell_in Q.out.1 17 rfl
      have z := box_lt Q.out.1
      go_wp2_with fail
      exact HR.out _ _ rfl (Chg.refl _ _) HJ.out
    · go_wp2_with fail
      refine (rnew_any most w').mono ?_
      rintro e w3 ⟨rfl, hg3⟩
      have hg4 : Grows w' w3 := hg3
      go_wp2_with fail
      exact HR.out _ _ rfl (Chg.ofGrows hg4) (HJ.out.grows hg4)
    · go_wp2_with fail
      exact HR.out _ _ (by rw [← HEB.out.2]) (Chg.refl _ _) HJ.out
    · go_wp2_with fail
      exact HR.out _ _ (by first | exact hn | exact hn.1) (Chg.refl _ _) HJ.out
    · subst hy
      refine wpList_store_box rfl 41 (.tmp 3) (.tmp 28) rfl (c + 1) (rdc me nn ⟨b0, b1, b2, b3, b4, b5, b6, b7, b8, b9, b10, b11, b12, b13⟩ (.slice none 0 0) (mostOfI most)) rfl (hn.1.trans (by rw [← HEB.out.2])) (Tryd.sizeOf41 _) (show w'.heap[c + 1]? = some (.cells zrd TRR (0, 0)) from HJ.out) rfl (rdc_one _ _ _ _ _ _ _) ?_
      intro w3 h3 c3
      have j3 : BoxJ (c + 1) zrd FI TRR true true w3 := by
        show w3.heap[c + 1]? = some (.cells FI TRR (0, 0))
        rw [← HEB.out.2]
        exact h3
      have R3 := Lib.hid (And.intro c3 j3)
      clear h3 c3 j3
      go_wp2_with fail
      exact HR.out undef _ R3.out.1 R3.out.2
  · intro vals w' hE hJ hn
    have n17 : NewRel (c + 1) (mostOfI most) me nn B (vals 2) w' := hn 17 2 rfl
    obtain ⟨base, rb, sb, tb, mb, hlt, e2, hra⟩ := n17
    have h9 : w'.heap[c + 1]? = some (.cells (rdc me nn B (.slice none 0 0) (mostOfI most)) TRR (0, 0)) := by rw [← HEB.out.1, HEB.out.2]; exact hJ
    have hg9 : Grows w w' := ((Chg.ofGrows (grows_trans _ _ _ HG.out HG3.out)).trans hE).toGrows fun j hj e => by omega
    simp only [e2]
    clear hn hE hJ e2
    have H9 := Lib.hid (And.intro h9 (And.intro hg9 hra))
    clear h9 hg9 hra
    go_wp2_with fail
    exact bodyPost_ret (results_box3 Tryd.results7 rfl (Tryd.isAgg41 _) (Tryd.sizeOf41 _) H9.out.1) rfl ⟨B, base, rb, sb, tb, mb, by rw [← HEB.out.1]; exact HB.out, by omega, rfl, H9.out.2.1, H9.out.2.2⟩
end Go.Proofs.YtgjieoljfcfacaaDoor
