/- What a node reads: the closure's walk. -/
import Derived.Test.YthdcmchjlpkkaaaDoorMndD
namespace Go.Proofs.YthdcmchjlpkkaaaDoor.Tr
open Go.RowKit Go.Sort
set_option maxHeartbeats 4000000
set_option maxRecDepth 100000
section
attribute [local go_sem] Oper.semAt_some
theorem reads_any {w : World} {a b d s s0 : Nat} {vc vE vD : Value} {c : List Int} {E : List SL} (p : Nat) (hts : w.heap[a]? = some (.cells #[.int .u64 (s : Int)] 30 (0, 0))) (hcb : w.heap[b]? = some (.cells #[vc] 27 (0, 0))) (htb : w.heap[d]? = some (.cells #[.int .u64 (s0 : Int), vE, vD] TTN (0, 0)))
    (hc : IHas w vc c) (hE : EHas w vE E) (hs : s < 18446744073709551616) (hT : Laid w) :
    Calls Tryd.prog 16 #[.int .i64 (p : Int), .pointer (some ⟨a, 0, none⟩), .pointer (some ⟨b, 0, none⟩), .pointer (some ⟨d, 0, none⟩)] w (fun e w' => ∃ v, e = .returned v ∧ Grows w w' ∧ GOwn ic 1 2 w' w.heap.size v (readsI c (errsOf E) (listN s) p)) := by
  obtain ⟨p0, ep⟩ : ∃ p0, w.heap.size = p0 := ⟨_, rfl⟩
  have hq2 := two_new w (.cells #[.int .i64 (p : Int)] 3) (.cells #[.slice none 0 0] 27)
  obtain ⟨W, eW⟩ : ∃ W, (w.alloc (.cells #[.int .i64 (p : Int)] 3)).alloc (.cells #[.slice none 0 0] 27) = W := ⟨_, rfl⟩
  have hgW : Grows w W := by rw [← eW]; exact bl_alloc (bl_alloc (Below.refl _ _) _) _
  rw [eW, ep] at hq2
  have hsW : W.heap.size = p0 + 1 + 1 := by rw [← eW]; simp [ep]
  have z1 := box_lt hts
  have z2 := box_lt hcb
  have z3 := box_lt htb
  rw [ep] at z1 z2 z3
  have HE := Lib.hid (each_any s W)
  have HT := Lib.hid hT
  have HGW := Lib.hid hgW
  have HPW := Lib.hid hq2
  have HSW := Lib.hid hsW
  have HS := Lib.hid hs
  have EP := Lib.hid ep
  have HB := Lib.hid (And.intro hts (And.intro hcb htb))
  have HC := Lib.hid (And.intro hc hE)
  have HZ := Lib.hid (And.intro z1 (And.intro z2 z3))
  have ka := (cell_in (box_grows hts hgW) 0 rfl).1
  clear hT hgW hq2 hsW hs hts hcb htb hc hE z1 z2 z3
  refine calls_of_wp_marks Tryd.func16 rfl ?_
  simp only [Tryd.ntmps16, List.size_toArray, List.length_cons, List.length_nil, Nat.reduceAdd, Nat.reduceSub, Array.replicate_succ, Array.replicate_zero, List.push_toArray, List.append_toArray, List.nil_append, List.cons_append]
  go_wp2_with fail
  refine (HE.out).mono ?_
  rintro e w3 ⟨rfl, e3⟩
  have hg3 : Grows W w3 := e3 ▸ bl_alloc (Below.refl _ _) _
  have hc3 : w3.heap[p0 + 1 + 1]? = some (.cells #[.int .u64 (s : Int)] 30 (0, 0)) := by rw [← e3, ← HSW.out]; exact heap_alloc_new W _
  have hs3 : w3.heap.size = p0 + 1 + 1 + 1 := by rw [← e3]; simp [HSW.out]
  rw [HSW.out]
  have hgw3 := grows_trans _ _ _ HGW.out hg3
  have hp3 := box_grows HPW.out.1 hg3
  have hl3 := box_grows HPW.out.2 hg3
  have hT3 := HT.out.grows hgw3
  clear e3 eW ka
  go_wp2_with fail
  refine wp_range3 (α := Int) rfl (enters_of Tryd.func24 (by kernel_rfl) rfl) (fun x => #[.int .i64 x]) (fun _ => rfl) (p0 + 1 + 1) (by rw [hs3]; exact Nat.lt_succ_self _)
    (fun pre A => Laid A ∧ (∃ v, A.heap[p0 + 1]? = some (.cells #[v] 27 (0, 0)) ∧ GOwn ic 1 2 A (p0 + 1 + 1 + 1) v (pre.map fun q => readI c (errsOf E) p q.toNat)) ∧ A.heap[p0]? = some (.cells #[.int .i64 (p : Int)] 3 (0, 0)) ∧ Grows w A)
    (fun pre x _ => (listN s)[pre.length]? = some x) (fun _ _ _ => False) (fun xs => xs = listN s) ?hI ?hIc ?hIx ?h0 ?it ?rd ?dn ?st
  case hI =>
    rintro pre X Y ⟨h1, ⟨v, h2, h3⟩, h5, h4⟩ hr
    exact ⟨h1.rec hr, ⟨v, hr.at h2, hr.own h3⟩, hr.at h5, hr.below h4 (Nat.le_refl _) (hgw3.size)⟩
  case hIc =>
    rintro pre X Y ⟨h1, ⟨v, h2, h3⟩, h5, h4⟩ hc
    exact ⟨h1.chg hc (by omega), ⟨v, box_chg h2 hc (by omega), hc.own h3 (fun j hj e => by have := (h3.lt j hj).1; omega)⟩, box_chg h5 hc (by omega), ((Chg.ofGrows h4).trans hc).toGrows fun j hj e => by omega⟩
  case hIx => exact fun _ _ _ _ h _ => h.elim
  case h0 => exact ⟨hT3, ⟨_, hl3, World.ownsRow_nil _ _ _ _⟩, hp3, hgw3⟩
  case it => exact each_tells w3 s _ (fun _ _ h => h.1) HS.out hc3
  case st => exact fun _ _ _ _ _ h => h.elim
  case rd =>
    intro l0 pre x W' hl0 hlt hI hG
    have HI := Lib.hid hI
    have hlen : pre.length ≤ 64 := Nat.le_trans (Nat.le_of_lt (List.getElem?_eq_some_iff.1 hG).1) (listN_length s)
    obtain ⟨k, rfl⟩ : ∃ k : Nat, x = (k : Int) := by
      have hm := (mem_listN s x).1 (List.mem_of_getElem? hG)
      unfold hasN at hm
      simp only [Bool.and_eq_true, decide_eq_true_eq] at hm
      exact ⟨x.toNat, by omega⟩
    have HL := Lib.hid hlen
    have HLW := Lib.hid (show p0 + 1 + 1 < W'.heap.size by rw [hs3] at hl0; omega)
    have HGW3 := Lib.hid hgw3
    clear hI hG hlen hT3 hp3 hc3 hl3 hgw3
    gi_wp2_with fail
    refine ⟨Below.refl _ _, ?_⟩
    intro W2 hr2
    obtain ⟨h1, ⟨v, h2, h3⟩, h5, h4⟩ := HI.out
    have f1 := h1.rec hr2
    have f2 := hr2.at h2
    have f3 : GOwn ic 1 2 W2 (p0 + 1 + 1 + 1) v (pre.map fun q => readI c (errsOf E) p q.toNat) := hr2.own h3
    have f5 := hr2.at h5
    have f4 := hr2.below h4 (Nat.le_refl _) (HGW3.out.size)
    have hs2 : p0 + 1 + 1 + 1 ≤ W2.heap.size := Nat.le_trans HLW.out hr2.size
    obtain ⟨l2, el2⟩ : ∃ l2, (pre.map fun q => readI c (errsOf E) p q.toNat) = l2 := ⟨_, rfl⟩
    have hl2 : l2.length ≤ 1000 := by rw [← el2, List.length_map]; exact Nat.le_trans HL.out (by decide)
    rw [el2] at f3
    obtain ⟨r, er⟩ : ∃ r, readI c (errsOf E) p k = r := ⟨_, rfl⟩
    have HX := Lib.hid (show (pre ++ [(k : Int)]).map (fun q => readI c (errsOf E) p q.toNat) = l2 ++ [r] by rw [List.map_append, el2, ← er]; rfl)
    obtain ⟨c1, ec1⟩ : ∃ c1, atI c k = c1 := ⟨_, rfl⟩
    obtain ⟨c2, ec2⟩ : ∃ c2, atI c p = c2 := ⟨_, rfl⟩
    obtain ⟨c3, ec3⟩ : ∃ c3, errI (errsOf E) p k = c3 := ⟨_, rfl⟩
    have er' : c1 - c2 + c3 = r := by rw [← er, ← ec1, ← ec2, ← ec3]; rfl
    have w1 : IntKind.i64.wrap (c1 - c2) = c1 - c2 := by have h6 := atI_rng c k; have h7 := atI_rng c p; rw [ec1] at h6; rw [ec2] at h7; exact IntWalk.i64_in _ (by omega)
    have w2 : IntKind.i64.wrap (c1 - c2 + c3) = r := by have h6 := readI_rng c (errsOf E) p k; rw [er] at h6; rw [er']; exact IntWalk.i64_in _ (by omega)
    have HSZ := Lib.hid (show ∀ j, RS (p0 + 1) v j → w.heap.size ≤ j ∧ j ≠ p0 from fun j hj => by
      rcases hj with hj | rfl
      · have := (f3.lt j hj).1; rw [EP.out]; omega
      · rw [EP.out]; omega)
    have HAT := Lib.hid (fun W9 (hg : Grows w W9) (i : Nat) => CallsIn.inRound l0 (callsIn_wide (n := 7).2 (at_any i (HC.out.1.grows hg))))
    have HER := Lib.hid (fun W9 (hg : Grows w W9) => by have := CallsIn.inRound l0 (callsIn_wide (n := 7).2 (err_any (u := vD) s0 p k (HC.out.2.grows hg))); rw [ec3] at this; exact this)
    have F := Lib.hid (And.intro f1 (And.intro f2 (And.intro f3 (And.intro f4 (And.intro f5 (And.intro hs2 hl2))))))
    clear h1 h2 h3 h4 h5 f1 f2 f3 f4 f5 hr2 hs2 hl2 er er' el2 ec3
    gi_wp2_with fail
    refine WideN.wpIn_flagG (RS (p0 + 1) v) [.fix _ v, .fix _ vc, .fix _ (.int .i64 (k : Int)), .fix _ (.int .i64 c1), .fix _ vc, .fix _ (.int .i64 (p : Int)), .fix _ (.int .i64 c2), .fix _ (.int .i64 (c1 - c2)), .fix _ (.agg #[.int .u64 (s0 : Int), vE, vD]), .fix _ (.int .i64 (p : Int)), .fix _ (.int .i64 (k : Int)), .fix _ (.int .i64 c3), .fix _ (.int .i64 r), .none _, .none _, .none _] (RJ (p0 + 1) (p0 + 1 + 1 + 1) v l2 r 27) ?_ (by kernel_rfl) (by kernel_rfl) rfl (fun vals => by simp [Act.over, dstsOf, overL]; rfl) ?_ ?_ ?_
    · obtain ⟨f1, f2, f3, f4, f5, f6, f7⟩ := F.out
      exact ⟨f6, .inl ⟨rfl, rfl, rfl, box_grows f2 (bl_drew (Below.refl _ _)), own_grows f3 (bl_drew (Below.refl _ _))⟩⟩
    · refine ⟨?_, ?_, ?_, ?_, ?_, ?_, ?_, ?_, ?_, ?_, ?_, ?_, ?_, ?_, ?_, ?_, trivial⟩
      all_goals
        intro vals w' fl hE hJ hi0 he hn R hR
        simp [WideN.needsOf, Region.binds, dstAt, gOf, SG.fix, SG.none] at hn he
        have HG9 := Lib.hid (show Grows w w' from grows_chg F.out.2.2.2.1 hE (fun j hj => (HSZ.out j hj).1))
        have HP9 := Lib.hid (box_chg F.out.2.2.2.2.1 hE (fun hs => (HSZ.out _ hs).2 rfl))
        have HJ := Lib.hid hJ
        clear hJ hE
      · obtain ⟨k0, -⟩ := cell_in (HJ.out.first hi0) 0 rfl
        have zk := box_lt (HJ.out.first hi0)
        try simp only [hn] at hR
        have HR := Lib.hid hR
        clear hR
        gi_wp2_with fail
        exact HR.out _ _ rfl (Chg.refl _ _) (HJ.out.s (Below.refl _ _) (by decide))
      · obtain ⟨k0, -⟩ := cell_in (box_grows HB.out.2.1 HG9.out) 0 rfl
        have zk := box_lt (box_grows HB.out.2.1 HG9.out)
        try simp only [hn] at hR
        have HR := Lib.hid hR
        clear hR
        gi_wp2_with fail
        exact HR.out _ _ rfl (Chg.refl _ _) (HJ.out.s (Below.refl _ _) (by decide))
      · try simp only [hn] at hR
        have HR := Lib.hid hR
        clear hR
        gi_wp2_with fail
        exact HR.out _ _ rfl (Chg.refl _ _) (HJ.out.s (Below.refl _ _) (by decide))
      · try simp only [hn] at hR
        have HR := Lib.hid hR
        clear hR
        gi_wp2_with fail
        refine ⟨trivial, (HAT.out _ HG9.out k).mono ?_⟩
        rintro e w5 ⟨rfl, rfl⟩
        rw [ec1]
        gi_wp2_with fail
        exact HR.out _ _ rfl (Chg.refl _ _) (HJ.out.s (Below.refl _ _) (by decide))
      · obtain ⟨k0, -⟩ := cell_in (box_grows HB.out.2.1 HG9.out) 0 rfl
        have zk := box_lt (box_grows HB.out.2.1 HG9.out)
        try simp only [hn] at hR
        have HR := Lib.hid hR
        clear hR
        gi_wp2_with fail
        exact HR.out _ _ rfl (Chg.refl _ _) (HJ.out.s (Below.refl _ _) (by decide))
      · obtain ⟨k0, -⟩ := cell_in HP9.out 0 rfl
        have zk := box_lt HP9.out
        try simp only [hn] at hR
        have HR := Lib.hid hR
        clear hR
        gi_wp2_with fail
        exact HR.out _ _ rfl (Chg.refl _ _) (HJ.out.s (Below.refl _ _) (by decide))
      · try simp only [hn] at hR
        have HR := Lib.hid hR
        clear hR
        gi_wp2_with fail
        refine ⟨trivial, (HAT.out _ HG9.out p).mono ?_⟩
        rintro e w5 ⟨rfl, rfl⟩
        rw [ec2]
        gi_wp2_with fail
        exact HR.out _ _ rfl (Chg.refl _ _) (HJ.out.s (Below.refl _ _) (by decide))
      · try simp only [hn] at hR
        have HR := Lib.hid hR
        clear hR
        gi_wp2_with fail
        exact HR.out _ _ rfl (Chg.refl _ _) (HJ.out.s (Below.refl _ _) (by decide))
      · obtain ⟨k0, -⟩ := cell_in (box_grows HB.out.2.2 HG9.out) 0 rfl
        obtain ⟨k1, -⟩ := cell_in (box_grows HB.out.2.2 HG9.out) 1 rfl
        obtain ⟨k2, -⟩ := cell_in (box_grows HB.out.2.2 HG9.out) 2 rfl
        have zk := box_lt (box_grows HB.out.2.2 HG9.out)
        try simp only [hn] at hR
        have HR := Lib.hid hR
        clear hR
        gi_wp2_with fail
        exact HR.out _ _ rfl (Chg.refl _ _) (HJ.out.s (Below.refl _ _) (by decide))
      · obtain ⟨k0, -⟩ := cell_in HP9.out 0 rfl
        have zk := box_lt HP9.out
        try simp only [hn] at hR
        have HR := Lib.hid hR
        clear hR
        gi_wp2_with fail
        exact HR.out _ _ rfl (Chg.refl _ _) (HJ.out.s (Below.refl _ _) (by decide))
      · try simp only [hn] at hR
        have HR := Lib.hid hR
        clear hR
        gi_wp2_with fail
        exact HR.out _ _ rfl (Chg.refl _ _) (HJ.out.s (Below.refl _ _) (by decide))
      · try simp only [hn] at hR
        have HR := Lib.hid hR
        clear hR
        gi_wp2_with fail
        refine ⟨trivial, (HER.out _ HG9.out).mono ?_⟩
        rintro e w5 ⟨rfl, hg5⟩
        have hg6 : Grows w' w5 := hg5
        have HG5 := Lib.hid hg6
        clear hg5 hg6
        gi_wp2_with fail
        exact HR.out _ _ rfl (Chg.ofGrows HG5.out) (HJ.out.s HG5.out (by decide))
      · try simp only [hn] at hR
        have HR := Lib.hid hR
        clear hR
        gi_wp2_with fail
        exact HR.out _ _ rfl (Chg.refl _ _) (HJ.out.s (Below.refl _ _) (by decide))
      · try simp only [hn] at hR
        have HR := Lib.hid hR
        clear hR
        gi_wp2_with fail
        exact HR.out _ _ trivial (Chg.ofGrows (bl_alloc (Below.refl _ _) _)) (HJ.out.build hi0)
      · obtain ⟨v6, W6, hr6, hj6, hc6⟩ := HJ.out.app F.out.2.2.2.2.2.2 (by simp [he]) (by simp [he]) hi0 (by decide)
        have J6 := Lib.hid (And.intro hj6 hc6)
        try simp only [hn] at hR
        have HR := Lib.hid hR
        clear hR hj6 hc6
        gi_wp2_with (gi_at_builtin; refine wpListIn_append_eq _ rfl _ _ 27 27 rfl _ _ (by first | exact hn | exact hn.1 | rfl) rfl (hr6 _) ?_)
        exact HR.out _ _ trivial J6.out.2 J6.out.1
      · obtain ⟨hb6, hj6, hc6⟩ := HJ.out.store (u := undef) (by simp [he]) hi0 (Nat.lt_trans (Nat.lt_succ_self _) (Nat.lt_succ_self _))
        obtain ⟨a9, n9, c9, ev⟩ := HJ.out.slice (by simp [he])
        rw [ev] at hj6 hc6
        have J6 := Lib.hid (And.intro hj6 hc6)
        obtain ⟨k0, k0f⟩ := cell_in hb6 0 rfl
        try simp only [ev] at hR
        have zk := box_lt hb6
        try simp only [hn] at hR
        have HR := Lib.hid hR
        clear hR hj6 hc6
        gi_wp2_with fail
        exact HR.out undef _ trivial J6.out.2 J6.out.1
    · intro vals w' hE hJ hn
      obtain ⟨fl, hall, hJ⟩ := hJ
      obtain ⟨f1, f2, f3, f4, f5, f6, f7⟩ := F.out
      obtain ⟨d1, d2⟩ := hJ.done (hall 15 (by decide))
      have hg9 : Grows w w' := grows_chg f4 hE (fun j hj => (HSZ.out j hj).1)
      have hz := HLW.out
      exact ⟨stay_rs hE f3 f2 (Nat.lt_succ_self _) (by omega) (Nat.lt_of_lt_of_le (Nat.lt_succ_self _) f6), f1.chg hE (fun hs => by have := (HSZ.out 0 hs).1; have := HT.out.lt; omega), ⟨_, d1, by rw [HX.out]; exact d2⟩, box_chg f5 hE (fun hs => (HSZ.out _ hs).2 rfl), hg9⟩
  case dn =>
    rintro D xs W7 hD hT7 ⟨h1, ⟨v, h2, h3⟩, h5, h4⟩ hdf
    obtain ⟨b0, -⟩ := cell_in h2 0 rfl
    have HF := Lib.hid (And.intro hD (And.intro hT7 (And.intro h3 (And.intro h4 hdf))))
    clear hT3 hp3 hc3 hl3 h1 h2 h3 h4 h5 hdf hD hT7
    go_wp2_with fail
    obtain ⟨hD, hT7, h3, h4, hdf⟩ := HF.out
    refine ⟨by simp, .inl ⟨_, _, rfl, run_takeDeferred hdf, ?_⟩⟩
    have hbel := (Rec.put (.deferred none) hD hdf rfl).below h4 (Nat.le_refl _) (hgw3.size)
    refine ⟨v, by simp [results, Tryd.results16, go_sem], v, rfl, hbel, ?_⟩
    have := (Rec.put (n := w3.heap.size) (.deferred none) hD hdf rfl).own h3
    rw [hT7] at this
    exact row_base this (show w.heap.size ≤ p0 + 1 + 1 + 1 by rw [EP.out]; omega)
end
end Go.Proofs.YthdcmchjlpkkaaaDoor.Tr
