/- A turn: what clocks tell behind it. -/
import Derived.Test.YthdcmchjlpkkaaaDoorMndF
namespace Go.Proofs.YthdcmchjlpkkaaaDoor.Tr
open Go.RowKit Go.Sort
set_option maxHeartbeats 4000000
set_option maxRecDepth 100000
/-- A row of which so many are done. -/
def RowTo (w : World) (g n : Nat) (F : Nat → Int) (i : Nat) : Prop := ∃ arr : Array Value, w.heap[g]? = some (.cells arr 2 (0, 0)) ∧ (∀ j, j < n → ∃ x, arr[j]? = some (.int .i64 x)) ∧ ∀ j, j < i → arr[j]? = some (.int .i64 (F j))
theorem RowTo.grows {w w' : World} {g n i : Nat} {F : Nat → Int} (h : RowTo w g n F i) (hg : Grows w w') : RowTo w' g n F i := by
  obtain ⟨arr, h1, h2, h3⟩ := h
  exact ⟨arr, box_grows h1 hg, h2, h3⟩
theorem RowTo.set {w : World} {g n i : Nat} {F : Nat → Int} (h : RowTo w g n F i) (hi : i < n) : RowTo (w.setCell ⟨g, i, none⟩ (.int .i64 (F i))) g n F (i + 1) := by
  obtain ⟨arr, h1, h2, h3⟩ := h
  obtain ⟨x, hx⟩ := h2 i hi
  have hsz := (Array.getElem?_eq_some_iff.1 hx).1
  refine ⟨_, box_setj (j := i) h1, fun j hj => ?_, fun j hj => ?_⟩
  · rw [Array.getElem?_setIfInBounds]
    by_cases e : i = j
    · subst e; rw [if_pos rfl, if_pos hsz]; exact ⟨_, rfl⟩
    · rw [if_neg e]; exact h2 j hj
  · rw [Array.getElem?_setIfInBounds]
    by_cases e : i = j
    · subst e; rw [if_pos rfl, if_pos hsz]
    · rw [if_neg e]; exact h3 j (by omega)
theorem RowTo.new {w : World} {g n : Nat} {F : Nat → Int} (h : w.heap[g]? = some (.cells (madeCells #[.int .i64 0] n) 2 (0, 0))) : RowTo w g n F 0 :=
  ⟨_, h, fun j hj => ⟨0, by simp [madeCells, hj, Nat.mod_one]⟩, fun j hj => absurd hj (Nat.not_lt_zero _)⟩
theorem RowTo.has {w : World} {g n : Nat} {F : Nat → Int} (h : RowTo w g n F n) : IHas w (.slice (some ⟨g, 0, none⟩) n n) ((List.range n).map F) := by
  obtain ⟨arr, h1, h2, h3⟩ := h
  refine .inr ⟨g, 0, n, by simp, by simp, box_lt h1, fun i hi => ?_⟩
  have hi' : i < n := by simpa using hi
  rw [Nat.zero_add, (cell_in h1 i (h3 i hi')).1]
  simp
theorem gown_ihas {w : World} {base : Nat} {v : Value} {l : List Int} (h : GOwn ic 1 2 w base v l) : IHas w v l := by
  rcases gown_rows kindI64.len h with h | ⟨g, o, cap, h1, h2, h3, h4⟩
  · exact .inl h
  · exact .inr ⟨g, o, cap, h1, h2, h3, fun i hi => by
      have := h4 i hi 0 (by decide)
      simpa using this⟩
theorem midT_eq (f : Int) (l : List Int) : midI (trimI f l) = midT f l := by
  unfold midT
  split
  · rename_i h
    rw [List.eq_nil_of_length_eq_zero h, trimI_nil]
    rfl
  · rfl
theorem rng_reads (c : List Int) (E : List (List Int)) (ss : List Int) (p : Nat) : Rng (readsI c E ss p) := fun x hx => by have := readsI_rng c E ss p x hx; omega
/-- What holds at the loop's head. -/
structure OnJ (w wr : World) (b0 g n : Nat) (ac : Option Addr) (cc s ss : Nat) (vE vD : Value) (F : Nat → Int) (i : Nat) : Prop where
  gr : Grows w wr
  hc : wr.heap[b0]? = some (.cells #[.slice ac n cc] 27 (0, 0))
  ht : wr.heap[b0 + 1]? = some (.cells #[.int .u64 (s : Int), vE, vD] TTN (0, 0))
  hs : wr.heap[b0 + 1 + 1]? = some (.cells #[.int .u64 (ss : Int)] 30 (0, 0))
  row : RowTo wr g n F i
  g0 : w.heap.size ≤ g
theorem box_ty {w : World} {p q : Nat} {cs ds : Array Value} {T U : TypeId} (h : w.heap[p]? = some (.cells cs T (0, 0))) (h2 : w.heap[q]? = some (.cells ds U (0, 0))) (hT : T ≠ U) : p ≠ q := fun e => by
  rw [e, h2] at h
  injection h with h
  injection h with _ h
  exact hT h.symm
theorem OnJ.grows {w wr w' : World} {b0 g n : Nat} {ac : Option Addr} {cc s ss : Nat} {vE vD : Value} {F : Nat → Int} {i : Nat} (h : OnJ w wr b0 g n ac cc s ss vE vD F i) (hg : Grows wr w') : OnJ w w' b0 g n ac cc s ss vE vD F i :=
  ⟨grows_trans _ _ _ h.gr hg, box_grows h.hc hg, box_grows h.ht hg, box_grows h.hs hg, h.row.grows hg, h.g0⟩
theorem OnJ.set {w wr : World} {b0 g n : Nat} {ac : Option Addr} {cc s ss : Nat} {vE vD : Value} {F : Nat → Int} {i : Nat} (h : OnJ w wr b0 g n ac cc s ss vE vD F i) (hi : i < n) : OnJ w (wr.setCell ⟨g, i, none⟩ (.int .i64 (F i))) b0 g n ac cc s ss vE vD F (i + 1) := by
  have hc : Chg (fun j => j = g) wr (wr.setCell ⟨g, i, none⟩ (.int .i64 (F i))) := Chg.setCell (S := fun j => j = g) (Chg.refl _ _) _ (.inr rfl)
  obtain ⟨arr, h1, -⟩ := h.row
  exact ⟨grows_chg h.gr hc (fun j hj => by rw [hj]; exact h.g0), box_chg h.hc hc (box_ty h.hc h1 (by decide)), box_chg h.ht hc (box_ty h.ht h1 (by decide)), box_chg h.hs hc (box_ty h.hs h1 (by decide)), h.row.set hi, h.g0⟩
theorem one_any {w : World} {s : Nat} {vc vE vD : Value} {c D : List Int} {E : List SL} (f : Int) (hc : IHas w vc c) (hE : EHas w vE E) (hD : IHas w vD D) (hs : s < 18446744073709551616) (hT : Laid w) (hm : c.length ≤ 1000) (hf : -9223372036854775808 ≤ f ∧ f ≤ 9223372036854775807) :
    Calls Tryd.prog 6 #[vc, .agg #[.int .u64 (s : Int), vE, vD], .int .i64 f] w (fun e w' => ∃ v, e = .returned v ∧ Grows w w' ∧ IHas w' v (oneI c (errsOf E) D (listN (s &&& allN c.length)) f)) := by
  obtain ⟨n, en⟩ : ∃ n, c.length = n := ⟨_, rfl⟩
  obtain ⟨ac, cc, rfl⟩ := hc.len en
  obtain ⟨b0, ep⟩ : ∃ b0, w.heap.size = b0 := ⟨_, rfl⟩
  have hq2 := two_new w (.cells #[.slice ac n cc] 27) (.cells #[.int .u64 (s : Int), vE, vD] TTN)
  obtain ⟨W, eW⟩ : ∃ W, (w.alloc (.cells #[.slice ac n cc] 27)).alloc (.cells #[.int .u64 (s : Int), vE, vD] TTN) = W := ⟨_, rfl⟩
  have hgW : Grows w W := by rw [← eW]; exact bl_alloc (bl_alloc (Below.refl _ _) _) _
  rw [eW, ep] at hq2
  have hsW : W.heap.size = b0 + 1 + 1 := by rw [← eW]; simp [ep]
  obtain ⟨ss, ess⟩ : ∃ ss, s &&& allN n = ss := ⟨_, rfl⟩
  have hss : ss < 18446744073709551616 := by rw [← ess]; exact Nat.lt_of_le_of_lt Nat.and_le_left hs
  have hand := bits_and_u64_nat s (allN n) hs (allN_lt n)
  rw [ess] at hand
  rw [en, ess]
  have HC := Lib.hid (And.intro hc (And.intro hE hD))
  have HT := Lib.hid hT
  have HGW := Lib.hid hgW
  have HQ := Lib.hid hq2
  have HSW := Lib.hid hsW
  have HSS := Lib.hid hss
  have EN := Lib.hid en
  have EP := Lib.hid ep
  have HM := Lib.hid (And.intro hm hf)
  have hmk := make_row n (by omega)
  clear hc hE hD hT hgW hq2 hsW hss hs ess hm
  go_enter Tryd.func6, Tryd.ntmps6
  go_wp2_with fail
  have HCB := Lib.hid (fun w' (hg : Grows W w') => show _ ∧ _ from And.intro (box_grows HQ.out.1 hg) (box_grows HQ.out.2 hg))
  have HANY := Lib.hid (fun W' => nall_any n W')
  have HAND := Lib.hid hand
  refine WideN.wp_flagG (fun j => W.heap.size ≤ j) [.fix _ (.pointer (some ⟨b0 + 1, 0, none⟩)), .fix _ (.int .u64 (s : Int)), .fix _ (.slice ac n cc), .fix _ (.int .i64 (n : Int)), .fix _ (.int .u64 ((allN n : Nat) : Int)), .fix _ (.int .u64 (ss : Int)), .none _, .none _] (AJ W.drew 6 7 7 (.int .u64 0) (.int .u64 (ss : Int)) 30) ?_ (by kernel_rfl) (by kernel_rfl) rfl (fun vals => by simp [Act.over, dstsOf, overL]; rfl) ?_ ?_ ?_
  · exact .inl ⟨rfl, rfl, rfl⟩
  · refine ⟨?_, ?_, ?_, ?_, ?_, ?_, ?_, ?_, trivial⟩
    all_goals
      intro vals w' fl hE hJ hi0 he hn R hR
      simp [WideN.needsOf, Region.binds, dstAt, gOf, SG.fix, SG.none] at hn he
      have HG9 := Lib.hid (show Grows W w' from grows_trans _ _ _ (bl_drew (Below.refl _ _)) hJ.grows)
      have HJ := Lib.hid hJ
      try simp only [hn] at hR
      have HR := Lib.hid hR
      clear hJ hE hR hand
    · go_wp2_with fail
      exact HR.out _ _ rfl (Chg.refl _ _) HJ.out.s
    · obtain ⟨k0, -⟩ := cell_in (HCB.out _ HG9.out).2 0 rfl
      have zk := box_lt (HCB.out _ HG9.out).2
      go_wp2_with fail
      exact HR.out _ _ rfl (Chg.refl _ _) HJ.out.s
    · obtain ⟨k0, -⟩ := cell_in (HCB.out _ HG9.out).1 0 rfl
      have zk := box_lt (HCB.out _ HG9.out).1
      go_wp2_with fail
      exact HR.out _ _ rfl (Chg.refl _ _) HJ.out.s
    · go_wp2_with fail
      exact HR.out _ _ rfl (Chg.refl _ _) HJ.out.s
    · go_wp2_with fail
      refine (HANY.out _).mono ?_
      rintro e w5 ⟨rfl, rfl⟩
      go_wp2_with fail
      exact HR.out _ _ rfl (Chg.refl _ _) HJ.out.s
    · have hand := HAND.out
      go_wp2_with fail
      exact HR.out _ _ rfl (Chg.refl _ _) HJ.out.s
    · go_wp2_with fail
      exact HR.out _ _ trivial (Chg.ofGrows (bl_alloc (Below.refl _ _) _)) (HJ.out.make hi0)
    · obtain ⟨hb6, ev, hj6, hc6⟩ := HJ.out.fill (u := undef) hi0 (by simp [he])
      have hz : W.drew.heap.size = b0 + 1 + 1 := HSW.out
      rw [hz] at hb6 hj6 hc6 ev
      have J6 := Lib.hid (And.intro hj6 hc6)
      obtain ⟨k0, k0f⟩ := cell_in hb6 0 rfl
      have zk := box_lt hb6
      have hR := HR.out
      try simp only [ev] at hR
      have HR := Lib.hid hR
      clear hR hj6 hc6
      go_wp2_with fail
      exact HR.out undef _ trivial (by have := J6.out.2; exact this.mono fun j _ hj => by rw [HSW.out]; exact hj) J6.out.1
  · intro vals w' hE hJ hn
    obtain ⟨fl, hall, hJ⟩ := hJ
    have hg9 : Grows W w' := grows_trans _ _ _ (bl_drew (Below.refl _ _)) hJ.grows
    obtain ⟨d1, d2⟩ := hJ.done (hall 7 (by decide))
    have d1' : w'.heap[b0 + 1 + 1]? = some (.cells #[.int .u64 (ss : Int)] 30 (0, 0)) := by rw [← HSW.out]; exact d1
    have d2' : vals 7 = .pointer (some ⟨b0 + 1 + 1, 0, none⟩) := by rw [← HSW.out]; exact d2
    have X1 := Lib.hid (And.intro hg9 (And.intro (HCB.out _ hg9) d1'))
    try simp only [d2']
    obtain ⟨k0, -⟩ := cell_in (HCB.out _ hg9).1 0 rfl
    have zk := box_lt (HCB.out _ hg9).1
    obtain ⟨g, eg⟩ : ∃ g, w'.heap.size = g := ⟨_, rfl⟩
    obtain ⟨w2, e2⟩ : ∃ w2, w'.alloc (.cells (madeCells #[.int .i64 0] n) 2) = w2 := ⟨_, rfl⟩
    have hg2 : Grows w' w2 := by rw [← e2]; exact bl_alloc (Below.refl _ _) _
    have hr2 : w2.heap[g]? = some (.cells (madeCells #[.int .i64 0] n) 2 (0, 0)) := by rw [← e2, ← eg]; exact heap_alloc_new w' _
    have X2 := Lib.hid (show OnJ w w2 b0 g n ac cc s ss vE vD (outI c (errsOf E) D (listN ss) f) 0 from ⟨grows_trans _ _ _ HGW.out (grows_trans _ _ _ X1.out.1 hg2), box_grows X1.out.2.1.1 hg2, box_grows X1.out.2.1.2 hg2, box_grows X1.out.2.2 hg2, RowTo.new hr2, by rw [← eg]; exact (grows_trans _ _ _ HGW.out X1.out.1).size⟩)
    clear hE hJ hall hn hg9 d1 d2 d1' hand eW hg2 hr2
    obtain ⟨k1, -⟩ := cell_in X2.out.hc 0 rfl
    have zk1 := box_lt X2.out.hc
    go_wp2_with fail
    go_loopw [25] (fun iv wr => ∃ i : Nat, iv = .int .i64 (i : Int) ∧ i ≤ n ∧ OnJ w wr b0 g n ac cc s ss vE vD (outI c (errsOf E) D (listN ss) f) i) (fun iv _ => n - (intOf iv).toNat)
    case atStart => exact ⟨0, rfl, Nat.zero_le _, X2.out⟩
    case round =>
      obtain ⟨i, rfl, hi, hon⟩ := hrel
      have D0 := Lib.hid hon
      clear hon
      by_cases hlt : i < n
      · have HIN := Lib.hid hlt
        have hd1 : decide ((i : Int) < (n : Int)) = true := decide_eq_true (by omega)
        have hq1 : (i < n) = True := eq_true hlt
        have hq3 : (i : Int) < (n : Int) := Int.ofNat_lt.2 hlt
        have hn6 : i ≤ 1000000 := by have := HM.out.1; have := EN.out; omega
        have HNF := Lib.hid (nat_facts i hn6)
        have HWS := Lib.hid (wrap_succ hn6)
        have HRD := Lib.hid (reads_any i D0.out.hs D0.out.hc D0.out.ht (HC.out.1.grows D0.out.gr) (HC.out.2.1.grows D0.out.gr) HSS.out (HT.out.grows D0.out.gr))
        clear hlt hi hn6 k0 k1 zk zk1 hmk e2 eg hf en
        obtain ⟨j1, j2, j3, j4, j6⟩ := HNF.out
        go_wp2_with fail
        refine HRD.out.mono ?_
        rintro e w3 ⟨v3, rfl, hg3, ho3⟩
        have hrl : (readsI c (errsOf E) (listN ss) i).length ≤ 1000 := by unfold readsI; rw [List.length_map]; exact Nat.le_trans (listN_length ss) (by decide)
        have hmid := middle_any f v3 (readsI c (errsOf E) (listN ss) i) w3 (gown_ihas ho3) hrl (rng_reads _ _ _ _) HM.out.2
        rw [midT_eq] at hmid
        obtain ⟨m, em⟩ : ∃ m, midT f (readsI c (errsOf E) (listN ss) i) = m := ⟨_, rfl⟩
        obtain ⟨x1, ex1⟩ : ∃ x1, atI c i = x1 := ⟨_, rfl⟩
        obtain ⟨x2, ex2⟩ : ∃ x2, atI D i = x2 := ⟨_, rfl⟩
        obtain ⟨r, er⟩ : ∃ r, outI c (errsOf E) D (listN ss) f i = r := ⟨_, rfl⟩
        have er' : x1 + m + x2 = r := by rw [← er, ← ex1, ← ex2, ← em]; rfl
        have hr1 := outI_rng c (errsOf E) D (listN ss) f i
        have hr2 := atI_rng c i
        have hr3 := atI_rng D i
        rw [er] at hr1
        rw [ex1] at hr2
        rw [ex2] at hr3
        have w1 : IntKind.i64.wrap (x1 + m) = x1 + m := IntWalk.i64_in _ (by omega)
        have w2 : IntKind.i64.wrap (x1 + m + x2) = r := by rw [er']; exact IntWalk.i64_in _ (by omega)
        rw [em] at hmid
        have HMID := Lib.hid hmid
        have D3 := Lib.hid (show OnJ w w3 b0 g n ac cc s ss vE vD (outI c (errsOf E) D (listN ss) f) i from D0.out.grows hg3)
        have HWW := Lib.hid (And.intro w1 w2)
        have HER := Lib.hid er
        have HA1 := Lib.hid (fun W' (hg : Grows w W') => show Calls Tryd.prog 18 #[.slice ac n cc, .int .i64 (i : Int)] W' (fun e w' => e = .returned (.int .i64 x1) ∧ W' = w') from by rw [← ex1]; exact at_any i (HC.out.1.grows hg))
        have HA2 := Lib.hid (fun W' (hg : Grows w W') => show Calls Tryd.prog 18 #[vD, .int .i64 (i : Int)] W' (fun e w' => e = .returned (.int .i64 x2) ∧ W' = w') from by rw [← ex2]; exact at_any i (HC.out.2.2.grows hg))
        clear hg3 ho3 hrl hmid em ex1 ex2 er er' hr1 hr2 hr3 w1 w2
        go_wp2_with fail
        refine HMID.out.mono ?_
        rintro e w4 ⟨rfl, hg4⟩
        have D4 := Lib.hid (show OnJ w w4 b0 g n ac cc s ss vE vD (outI c (errsOf E) D (listN ss) f) i from D3.out.grows hg4)
        clear hg4
        obtain ⟨k0, -⟩ := cell_in D4.out.hc 0 rfl
        have zk := box_lt D4.out.hc
        obtain ⟨k2, -⟩ := cell_in D4.out.ht 2 rfl
        have zk2 := box_lt D4.out.ht
        obtain ⟨w1, w2⟩ := HWW.out
        go_wp2_with fail
        have HB1 := Lib.hid (fun p => HA1.out (reg w4 p) (grows_trans _ _ _ D4.out.gr (below_reg _ _)))
        have HB2 := Lib.hid (fun p => HA2.out (reg w4 p) (grows_trans _ _ _ D4.out.gr (below_reg _ _)))
        refine wp_region_tail_reg 13 (by kernel_rfl) (by kernel_rfl) (by kernel_rfl) (by kernel_rfl) ?_
        simp only [List.take_succ_cons, List.take_zero, List.drop_succ_cons, List.drop_zero]
        repeat (first | go_big_quiet_step ((first | (go_at_call 18; with_reducible refine class_same (HB1.out _) ⟨_, rfl⟩) | (go_at_call 18; with_reducible refine class_same (HB2.out _) ⟨_, rfl⟩))) | quiet_step ((first | (go_at_call 18; with_reducible refine class_same (HB1.out _) ⟨_, rfl⟩) | (go_at_call 18; with_reducible refine class_same (HB2.out _) ⟨_, rfl⟩))))
        refine wpQuiet_nil ?_
        intro _ hcw1
        obtain ⟨pq, hcw2⟩ := hcw1
        subst hcw2
        obtain ⟨w5, e5, hg5⟩ : ∃ w5, reg w4 pq = w5 ∧ Grows w4 w5 := ⟨_, rfl, below_reg _ _⟩
        rw [e5]
        have D5 := Lib.hid (D4.out.grows hg5)
        obtain ⟨arr, a1, a2, -⟩ := D5.out.row
        obtain ⟨xo, hxo⟩ := a2 i HIN.out
        obtain ⟨q0, q0f⟩ := cell_in a1 i hxo
        have zq := box_lt a1
        obtain ⟨w6, e6⟩ : ∃ w6, w5.setCell ⟨g, i, none⟩ (.int .i64 r) = w6 := ⟨_, rfl⟩
        have D6 := Lib.hid (show OnJ w w6 b0 g n ac cc s ss vE vD (outI c (errsOf E) D (listN ss) f) (i + 1) from by have := D5.out.set HIN.out; rw [HER.out, e6] at this; exact this)
        clear e5 hg5 a1 a2 hxo k0 zk k2 zk2 w1 w2
        go_wp2_with fail
        go_roundw
        case rel => exact ⟨i + 1, congrArg (Value.int .i64) HWS.out, HIN.out, D6.out⟩
        case measure => rw [HWS.out]; exact meas_succ HIN.out
      · obtain rfl : i = n := by omega
        have hd1 : decide ((i : Int) < (i : Int)) = false := decide_eq_false (by omega)
        have hq1 : (i < i) = False := eq_false (by omega)
        clear hlt hi k0 k1 zk zk1 hmk e2 eg
        go_wp2_with fail
        go_ret
        refine ⟨_, rfl, D0.out.gr, ?_⟩
        unfold oneI
        rw [EN.out]
        exact D0.out.row.has
end Go.Proofs.YthdcmchjlpkkaaaDoor.Tr
