/- How far clocks are apart. -/
import Derived.Test.YthdcmchjlpkkaaaDoorMndG
namespace Go.Proofs.YthdcmchjlpkkaaaDoor.Tr
open Go.RowKit Go.Sort
set_option maxHeartbeats 4000000
set_option maxRecDepth 100000
/-- How far a round has come: the least one and the greatest one. -/
structure SJ (p1 p2 : Nat) (lo lo' hi hi' : Int) (fl : Nat → Bool) (vals : Nat → Value) (w : World) : Prop where
  lo : w.heap[p1]? = some (.cells #[.int .i64 (bif fl 10 then lo' else lo)] 2 (0, 0))
  hi : w.heap[p2]? = some (.cells #[.int .i64 (bif fl 11 then hi' else hi)] 2 (0, 0))
  h0 : fl 10 = true → fl 0 = true
  h5 : fl 11 = true → fl 5 = true
section
variable {p1 p2 : Nat} {lo lo' hi hi' : Int} {fl : Nat → Bool} {vals : Nat → Value} {w w' : World}
theorem SJ.s {i : Nat} {d : Option Nat} {y : Value} (h : SJ p1 p2 lo lo' hi hi' fl vals w) (h1 : i < 10 := by decide) : SJ p1 p2 lo lo' hi hi' (uF i fl) (uV d y vals) w := by
  have e1 : uF i fl 10 = fl 10 := by simp only [uF, show ¬ 10 = i by omega, decide_false, Bool.false_or]
  have e2 : uF i fl 11 = fl 11 := by simp only [uF, show ¬ 11 = i by omega, decide_false, Bool.false_or]
  exact ⟨by rw [e1]; exact h.lo, by rw [e2]; exact h.hi, fun hf => by rw [e1] at hf; simp [uF, h.h0 hf], fun hf => by rw [e2] at hf; simp [uF, h.h5 hf]⟩
theorem SJ.at0 (h : SJ p1 p2 lo lo' hi hi' fl vals w) (h0 : fl 0 = false) : w.heap[p1]? = some (.cells #[.int .i64 lo] 2 (0, 0)) := by
  have h1 := h.lo
  have e : fl 10 = false := by
    cases hf : fl 10 with
    | false => rfl
    | true => have := h.h0 hf; rw [h0] at this; cases this
  rw [e] at h1
  exact h1
theorem SJ.at5 (h : SJ p1 p2 lo lo' hi hi' fl vals w) (h0 : fl 5 = false) : w.heap[p2]? = some (.cells #[.int .i64 hi] 2 (0, 0)) := by
  have h1 := h.hi
  have e : fl 11 = false := by
    cases hf : fl 11 with
    | false => rfl
    | true => have := h.h5 hf; rw [h0] at this; cases this
  rw [e] at h1
  exact h1
theorem SJ.st0 {u : Value} (h : SJ p1 p2 lo lo' hi hi' fl vals w) (h0 : fl 0 = true) (hne : p1 ≠ p2) : SJ p1 p2 lo lo' hi hi' (uF 10 fl) (uV none u vals) (w.setCell ⟨p1, 0, none⟩ (.int .i64 lo')) ∧ Chg (fun j => j = p1 ∨ j = p2) w (w.setCell ⟨p1, 0, none⟩ (.int .i64 lo')) := by
  have hc : Chg (fun j => j = p1) w (w.setCell ⟨p1, 0, none⟩ (.int .i64 lo')) := Chg.setCell (S := fun j => j = p1) (Chg.refl _ _) _ (.inr rfl)
  have h1 := box_setj (j := 0) (v := .int .i64 lo') h.lo
  have h2 := box_chg h.hi hc (fun e => hne e.symm)
  refine ⟨⟨by simp only [uF, decide_true, Bool.true_or]; exact h1, by simp only [uF, show ¬ 11 = 10 by decide, decide_false, Bool.false_or]; exact h2, fun _ => by simp [uF, h0], fun hf => ?_⟩, hc.mono fun j _ hj => .inl hj⟩
  have : fl 11 = true := by simpa [uF] using hf
  simp [uF, h.h5 this]
theorem SJ.st5 {u : Value} (h : SJ p1 p2 lo lo' hi hi' fl vals w) (h0 : fl 5 = true) (hne : p1 ≠ p2) : SJ p1 p2 lo lo' hi hi' (uF 11 fl) (uV none u vals) (w.setCell ⟨p2, 0, none⟩ (.int .i64 hi')) ∧ Chg (fun j => j = p1 ∨ j = p2) w (w.setCell ⟨p2, 0, none⟩ (.int .i64 hi')) := by
  have hc : Chg (fun j => j = p2) w (w.setCell ⟨p2, 0, none⟩ (.int .i64 hi')) := Chg.setCell (S := fun j => j = p2) (Chg.refl _ _) _ (.inr rfl)
  have h1 := box_setj (j := 0) (v := .int .i64 hi') h.hi
  have h2 := box_chg h.lo hc hne
  refine ⟨⟨by simp only [uF, show ¬ 10 = 11 by decide, decide_false, Bool.false_or]; exact h2, by simp only [uF, decide_true, Bool.true_or]; exact h1, fun hf => ?_, fun _ => by simp [uF, h0]⟩, hc.mono fun j _ hj => .inr hj⟩
  have : fl 10 = true := by simpa [uF] using hf
  simp [uF, h.h0 this]
end
/-- The least and the greatest of those that were gone over. -/
def LoHi (c : List Int) (ss : Nat) (pre : List Int) (lo hi : Int) : Prop := (∃ p ∈ listN ss, lo = atI c p.toNat) ∧ (∃ p ∈ listN ss, hi = atI c p.toNat) ∧ ∀ q ∈ pre, lo ≤ atI c q.toNat ∧ atI c q.toNat ≤ hi
theorem LoHi.snoc {c : List Int} {ss : Nat} {pre : List Int} {lo hi x : Int} {q : Int} (h : LoHi c ss pre lo hi) (hq : q ∈ listN ss) (hx : atI c q.toNat = x) : LoHi c ss (pre ++ [q]) (min lo x) (max hi x) := by
  obtain ⟨⟨p, hp, e1⟩, ⟨r, hr, e2⟩, h3⟩ := h
  refine ⟨?_, ?_, fun y hy => ?_⟩
  · rcases Int.le_total lo x with hle | hle
    · exact ⟨p, hp, by omega⟩
    · exact ⟨q, hq, by omega⟩
  · rcases Int.le_total hi x with hle | hle
    · exact ⟨q, hq, by omega⟩
    · exact ⟨r, hr, by omega⟩
  · rw [List.mem_append, List.mem_singleton] at hy
    rcases hy with hy | rfl
    · have := h3 y hy; omega
    · omega
theorem LoHi.rng {c : List Int} {ss : Nat} {pre : List Int} {lo hi : Int} (h : LoHi c ss pre lo hi) : -1099511627776 ≤ lo ∧ lo ≤ 1099511627776 ∧ -1099511627776 ≤ hi ∧ hi ≤ 1099511627776 := by
  obtain ⟨⟨p, _, e1⟩, ⟨r, _, e2⟩, _⟩ := h
  have h1 := atI_rng c p.toNat
  have h2 := atI_rng c r.toNat
  omega
/-- What holds no cells stays; so does block cb. -/
theorem stay2 {W W' : World} {n cb p1 p2 : Nat} {u v : Value} {T U : TypeId} (hc : Chg (fun j => j = p1 ∨ j = p2) W W') (h1 : W.heap[p1]? = some (.cells #[u] T (0, 0))) (h2 : W.heap[p2]? = some (.cells #[v] U (0, 0))) (hb1 : cb ≠ p1) (hb2 : cb ≠ p2) (hcW : cb < W.heap.size) : Stay n cb W W' := by
  refine ⟨fun j o _ hoc hj => ?_, hc.block cb hcW (fun hs => hs.elim hb1 hb2)⟩
  rw [hc.block j (box_lt hj) (fun hs => ?_)]
  · exact hj
  · rcases hs with rfl | rfl
    · rw [hj] at h1
      injection h1 with h1
      rw [h1] at hoc
      cases hoc
    · rw [hj] at h2
      injection h2 with h2
      rw [h2] at hoc
      cases hoc
/-- What a call leaves that tells how far clocks are apart. -/
def SpTo (w : World) (c : List Int) (ss : Nat) (e : Ending) (w' : World) : Prop := Grows w w' ∧ ((listN ss = [] ∧ e = .returned (.tuple #[.int .i64 0, .bool false])) ∨ ∃ lo hi, LoHi c ss (listN ss) lo hi ∧ listN ss ≠ [] ∧ e = .returned (.tuple #[.int .i64 (hi - lo), .bool true]))
section
attribute [local go_sem] Oper.semAt_some
theorem spread_any {w : World} {s : Nat} {vc : Value} {c : List Int} (hc : IHas w vc c) (hs : s < 18446744073709551616) (hT : Laid w) : Calls Tryd.prog 8 #[vc, .int .u64 (s : Int)] w (SpTo w c (s &&& allN c.length)) := by
  obtain ⟨n, en⟩ : ∃ n, c.length = n := ⟨_, rfl⟩
  obtain ⟨ac, cc, rfl⟩ := hc.len en
  obtain ⟨b0, ep⟩ : ∃ b0, w.heap.size = b0 := ⟨_, rfl⟩
  have hq := heap_alloc_new w (.cells #[.slice ac n cc] 27)
  obtain ⟨W, eW⟩ : ∃ W, w.alloc (.cells #[.slice ac n cc] 27) = W := ⟨_, rfl⟩
  have hgW : Grows w W := by rw [← eW]; exact bl_alloc (Below.refl _ _) _
  rw [eW, ep] at hq
  have hsW : W.heap.size = b0 + 1 := by rw [← eW]; simp [ep]
  obtain ⟨ss, ess⟩ : ∃ ss, s &&& allN n = ss := ⟨_, rfl⟩
  have hss : ss < 18446744073709551616 := by rw [← ess]; exact Nat.lt_of_le_of_lt Nat.and_le_left hs
  have hand := bits_and_u64_nat s (allN n) hs (allN_lt n)
  rw [ess] at hand
  rw [en, ess]
  have HC := Lib.hid hc
  have HT := Lib.hid hT
  have HGW := Lib.hid hgW
  have HQ := Lib.hid hq
  have HSW := Lib.hid hsW
  have HSS := Lib.hid hss
  have EN := Lib.hid en
  have EP := Lib.hid ep
  have HANY := Lib.hid (fun W' => nall_any n W')
  clear hc hT hgW hq hsW hss hs ess
  obtain ⟨k0, -⟩ := cell_in HQ.out 0 rfl
  have zk := box_lt HQ.out
  refine calls_of_wp_marks Tryd.func8 rfl ?_
  simp only [Tryd.ntmps8, List.size_toArray, List.length_cons, List.length_nil, Nat.reduceAdd, Nat.reduceSub, Array.replicate_succ, Array.replicate_zero, List.push_toArray, List.append_toArray, List.nil_append, List.cons_append]
  go_wp2_with fail
  refine (HANY.out _).mono ?_
  rintro e w1 ⟨rfl, rfl⟩
  by_cases h0 : ss = 0
  · subst h0
    go_wp2_with fail
    exact ⟨_, by simp [results, Tryd.results8, go_sem], HGW.out, .inl ⟨listN_zero, rfl⟩⟩
  · have hx0 : ((ss : Int) == 0) = false := by simp; omega
    have hx1 : ¬ (ss : Int) = 0 := by omega
    have hlc := listN_cons ss h0 HSS.out
    obtain ⟨k, ek⟩ : ∃ k, Lib.ctz 64 ss = k := ⟨_, rfl⟩
    rw [ek] at hlc
    have HLE := Lib.hid (fun W' (hg : Grows w W') => show Calls Tryd.prog 21 #[.int .u64 (ss : Int)] W' (fun e w' => e = .returned (.int .i64 (k : Int)) ∧ W' = w') from by rw [← ek]; exact least_any ss HSS.out h0 W' (HT.out.grows hg))
    obtain ⟨c0, ec0⟩ : ∃ c0, atI c k = c0 := ⟨_, rfl⟩
    have HAK := Lib.hid (fun W' (hg : Grows w W') => show Calls Tryd.prog 18 #[.slice ac n cc, .int .i64 (k : Int)] W' (fun e w' => e = .returned (.int .i64 c0) ∧ W' = w') from by rw [← ec0]; exact at_any k (HC.out.grows hg))
    have HLH := Lib.hid (show (k : Int) ∈ listN ss ∧ atI c (k : Int).toNat = c0 from ⟨by rw [hlc]; exact List.mem_cons_self .., ec0⟩)
    have H0 := Lib.hid h0
    clear hlc ek ec0
    go_wp2_with fail
    clear hand
    refine WideN.wp_flagG (fun j => W.heap.size ≤ j) [.fix _ (.slice ac n cc), .fix _ (.int .u64 (ss : Int)), .fix _ (.int .i64 (k : Int)), .fix _ (.int .i64 c0), .none _, .none _] (AJ W.drew 4 5 6 (.int .i64 0) (.int .i64 c0) 2) ?_ (by kernel_rfl) (by kernel_rfl) rfl (fun vals => by simp [Act.over, dstsOf, overL]; rfl) ?_ ?_ ?_
    · exact .inl ⟨rfl, rfl, rfl⟩
    · refine ⟨?_, ?_, ?_, ?_, ?_, ?_, trivial⟩
      all_goals
        intro vals w' fl hE hJ hi0 he hn R hR
        simp [WideN.needsOf, Region.binds, dstAt, gOf, SG.fix, SG.none] at hn he
        have HG9 := Lib.hid (show Grows W w' from grows_trans _ _ _ (bl_drew (Below.refl _ _)) hJ.grows)
        have HJ := Lib.hid hJ
        try simp only [hn] at hR
        have HR := Lib.hid hR
        clear hJ hE hR k0 zk
      · obtain ⟨k0, -⟩ := cell_in (box_grows HQ.out HG9.out) 0 rfl
        have zk := box_lt (box_grows HQ.out HG9.out)
        go_wp2_with fail
        exact HR.out _ _ rfl (Chg.refl _ _) HJ.out.s
      · go_wp2_with fail
        exact HR.out _ _ rfl (Chg.refl _ _) HJ.out.s
      · go_wp2_with fail
        refine (HLE.out _ (grows_trans _ _ _ HGW.out HG9.out)).mono ?_
        rintro e w5 ⟨rfl, rfl⟩
        go_wp2_with fail
        exact HR.out _ _ rfl (Chg.refl _ _) HJ.out.s
      · go_wp2_with fail
        refine (HAK.out _ (grows_trans _ _ _ HGW.out HG9.out)).mono ?_
        rintro e w5 ⟨rfl, rfl⟩
        go_wp2_with fail
        exact HR.out _ _ rfl (Chg.refl _ _) HJ.out.s
      · go_wp2_with fail
        exact HR.out _ _ trivial (Chg.ofGrows (bl_alloc (Below.refl _ _) _)) (HJ.out.make hi0)
      · obtain ⟨hb6, ev, hj6, hc6⟩ := HJ.out.fill (u := undef) hi0 (by simp [he])
        have hz : W.drew.heap.size = b0 + 1 := HSW.out
        rw [hz] at hb6 hj6 hc6 ev
        have J6 := Lib.hid (And.intro hj6 hc6)
        obtain ⟨k0, k0f⟩ := cell_in hb6 0 rfl
        have zk := box_lt hb6
        have hR := HR.out
        try simp only [ev] at hR
        have HR := Lib.hid hR
        clear hR hj6 hc6
        go_wp2_with fail
        exact HR.out undef _ trivial (by have := J6.out.2; exact this.mono fun j _ hj => by rw [HSW.out]; exact hj) J6.out.1
    · intro vals w' hE hJ hn
      obtain ⟨fl, hall, hJ⟩ := hJ
      have hg9 : Grows W w' := grows_trans _ _ _ (bl_drew (Below.refl _ _)) hJ.grows
      obtain ⟨d1, d2⟩ := hJ.done (hall 5 (by decide))
      have d1' : w'.heap[b0 + 1]? = some (.cells #[.int .i64 c0] 2 (0, 0)) := by rw [← HSW.out]; exact d1
      have d2' : vals 6 = .pointer (some ⟨b0 + 1, 0, none⟩) := by rw [← HSW.out]; exact d2
      obtain ⟨p2, ep2⟩ : ∃ p2, w'.heap.size = p2 := ⟨_, rfl⟩
      obtain ⟨w2, e2⟩ : ∃ w2, w'.alloc (.cells #[.int .i64 c0] 2) = w2 := ⟨_, rfl⟩
      have hg2 : Grows w' w2 := by rw [← e2]; exact bl_alloc (Below.refl _ _) _
      have hp2 : w2.heap[p2]? = some (.cells #[.int .i64 c0] 2 (0, 0)) := by rw [← e2, ← ep2]; exact heap_alloc_new w' _
      have hz2 : w2.heap.size = p2 + 1 := by rw [← e2, ← ep2]; simp
      have X2 := Lib.hid (And.intro (grows_trans _ _ _ HGW.out (grows_trans _ _ _ hg9 hg2)) (And.intro (box_grows HQ.out (grows_trans _ _ _ hg9 hg2)) (And.intro (box_grows d1' hg2) (And.intro hp2 hz2))))
      have hlt := box_lt d1'
      rw [ep2] at hlt
      have HLT := Lib.hid hlt
      obtain ⟨k1, -⟩ := cell_in d1' 0 rfl
      have zk1 := box_lt d1'
      try simp only [d2']
      have HE := Lib.hid (each_any ss w2)
      clear hE hJ hall hn hg9 d1 d2 d1' hg2 hp2 hz2 k0 zk eW hlt
      go_wp2_with fail
      refine (HE.out).mono ?_
      rintro e w3 ⟨rfl, e3⟩
      have hg3 : Grows w2 w3 := e3 ▸ bl_alloc (Below.refl _ _) _
      have hc3 : w3.heap[p2 + 1]? = some (.cells #[.int .u64 (ss : Int)] 30 (0, 0)) := by rw [← e3, ← X2.out.2.2.2.2]; exact heap_alloc_new w2 _
      have hs3 : w3.heap.size = p2 + 1 + 1 := by rw [← e3]; simp [X2.out.2.2.2.2]
      rw [X2.out.2.2.2.2]
      have hgw3 : Grows w w3 := grows_trans _ _ _ X2.out.1 hg3
      have hb3 := box_grows X2.out.2.1 hg3
      have hl3 := box_grows X2.out.2.2.1 hg3
      have hh3 := box_grows X2.out.2.2.2.1 hg3
      have hT3 := HT.out.grows hgw3
      have hpp := HLT.out
      have hb00 := EP.out
      clear e3 e2 k1 zk1
      go_wp2_with fail
      refine wp_range3 (α := Int) rfl (enters_of Tryd.func24 (by kernel_rfl) rfl) (fun x => #[.int .i64 x]) (fun _ => rfl) (p2 + 1) (by rw [hs3]; exact Nat.lt_succ_self _)
        (fun pre A => Laid A ∧ (∃ lo hi, A.heap[b0 + 1]? = some (.cells #[.int .i64 lo] 2 (0, 0)) ∧ A.heap[p2]? = some (.cells #[.int .i64 hi] 2 (0, 0)) ∧ LoHi c ss pre lo hi) ∧ A.heap[b0]? = some (.cells #[.slice ac n cc] 27 (0, 0)) ∧ Grows w A)
        (fun pre x _ => (listN ss)[pre.length]? = some x) (fun _ _ _ => False) (fun xs => xs = listN ss) ?hI ?hIc ?hIx ?h0 ?it ?rd ?dn ?st
      case hI =>
        rintro pre X Y ⟨h1, ⟨lo, hi, h2, h3, h6⟩, h5, h4⟩ hr
        exact ⟨h1.rec hr, ⟨lo, hi, hr.at h2, hr.at h3, h6⟩, hr.at h5, hr.below h4 (Nat.le_refl _) (hgw3.size)⟩
      case hIc =>
        rintro pre X Y ⟨h1, ⟨lo, hi, h2, h3, h6⟩, h5, h4⟩ hc
        exact ⟨h1.chg hc (by omega), ⟨lo, hi, box_chg h2 hc (by omega), box_chg h3 hc (by omega), h6⟩, box_chg h5 hc (by omega), ((Chg.ofGrows h4).trans hc).toGrows fun j hj e => by omega⟩
      case hIx => exact fun _ _ _ _ h _ => h.elim
      case h0 => exact ⟨hT3, ⟨c0, c0, hl3, hh3, ⟨_, HLH.out.1, HLH.out.2.symm⟩, ⟨_, HLH.out.1, HLH.out.2.symm⟩, fun q hq => by cases hq⟩, hb3, hgw3⟩
      case it => exact each_tells w3 ss _ (fun _ _ h => h.1) HSS.out hc3
      case st => exact fun _ _ _ _ _ h => h.elim
      case rd =>
        intro l0 pre x W' hl0 hlt hI hG
        have HI := Lib.hid hI
        have hmem := List.mem_of_getElem? hG
        obtain ⟨q, rfl⟩ : ∃ q : Nat, x = (q : Int) := by
          have hm := (mem_listN ss x).1 hmem
          unfold hasN at hm
          simp only [Bool.and_eq_true, decide_eq_true_eq] at hm
          exact ⟨x.toNat, by omega⟩
        have HME := Lib.hid hmem
        have HLW := Lib.hid (show p2 + 1 < W'.heap.size by rw [hs3] at hl0; omega)
        have HGW3 := Lib.hid hgw3
        have HNE := Lib.hid (show b0 + 1 ≠ p2 by omega)
        clear hI hG hT3 hb3 hc3 hl3 hh3 hgw3 hmem
        gi_wp2_with fail
        refine ⟨Below.refl _ _, ?_⟩
        intro W2 hr2
        obtain ⟨h1, ⟨lo, hi, h2, h3, h6⟩, h5, h4⟩ := HI.out
        have F := Lib.hid (And.intro (h1.rec hr2) (And.intro (hr2.at h2) (And.intro (hr2.at h3) (And.intro h6 (And.intro (hr2.at h5) (And.intro (hr2.below h4 (Nat.le_refl _) (HGW3.out.size)) (Nat.lt_of_lt_of_le HLW.out hr2.size)))))))
        obtain ⟨y, ey⟩ : ∃ y, atI c q = y := ⟨_, rfl⟩
        have HAT := Lib.hid (fun W9 (hg : Grows w W9) => by have := CallsIn.inRound l0 (callsIn_wide (n := 7).2 (at_any q (HC.out.grows hg))); rw [ey] at this; exact this)
        have HSN := Lib.hid (LoHi.snoc h6 HME.out (show atI c ((q : Int)).toNat = y from ey))
        clear h1 h2 h3 h4 h5 h6 hr2 ey
        gi_wp2_with fail
        refine WideN.wpIn_flagG (fun j => j = b0 + 1 ∨ j = p2) [.fix _ (.int .i64 lo), .fix _ (.slice ac n cc), .fix _ (.int .i64 (q : Int)), .fix _ (.int .i64 y), .fix _ (.int .i64 (min lo y)), .fix _ (.int .i64 hi), .fix _ (.slice ac n cc), .fix _ (.int .i64 (q : Int)), .fix _ (.int .i64 y), .fix _ (.int .i64 (max hi y)), .none _, .none _] (SJ (b0 + 1) p2 lo (min lo y) hi (max hi y)) ?_ (by kernel_rfl) (by kernel_rfl) rfl (fun vals => by simp [Act.over, dstsOf, overL]; rfl) ?_ ?_ ?_
        · exact ⟨box_grows F.out.2.1 (bl_drew (Below.refl _ _)), box_grows F.out.2.2.1 (bl_drew (Below.refl _ _)), fun h => (by cases h), fun h => (by cases h)⟩
        · refine ⟨?_, ?_, ?_, ?_, ?_, ?_, ?_, ?_, ?_, ?_, ?_, ?_, trivial⟩
          all_goals
            intro vals w' fl hE hJ hi0 he hn R hR
            simp [WideN.needsOf, Region.binds, dstAt, gOf, SG.fix, SG.none] at hn he
            have HG9 := Lib.hid (show Grows w w' from grows_chg F.out.2.2.2.2.2.1 hE (fun j hj => by rcases hj with rfl | rfl <;> omega))
            have HC9 := Lib.hid (box_chg F.out.2.2.2.2.1 hE (fun hs => by rcases hs with hs | hs <;> omega))
            have HJ := Lib.hid hJ
            clear hJ hE
          · obtain ⟨k0, -⟩ := cell_in (HJ.out.at0 hi0) 0 rfl
            have zk := box_lt (HJ.out.at0 hi0)
            try simp only [hn] at hR
            have HR := Lib.hid hR
            clear hR
            gi_wp2_with fail
            exact HR.out _ _ rfl (Chg.refl _ _) HJ.out.s
          · obtain ⟨k0, -⟩ := cell_in (HC9.out) 0 rfl
            have zk := box_lt HC9.out
            try simp only [hn] at hR
            have HR := Lib.hid hR
            clear hR
            gi_wp2_with fail
            exact HR.out _ _ rfl (Chg.refl _ _) HJ.out.s
          · try simp only [hn] at hR
            have HR := Lib.hid hR
            clear hR
            gi_wp2_with fail
            exact HR.out _ _ rfl (Chg.refl _ _) HJ.out.s
          · try simp only [hn] at hR
            have HR := Lib.hid hR
            clear hR
            gi_wp2_with fail
            refine ⟨trivial, (HAT.out _ HG9.out).mono ?_⟩
            rintro e w5 ⟨rfl, rfl⟩
            gi_wp2_with fail
            exact HR.out _ _ rfl (Chg.refl _ _) HJ.out.s
          · try simp only [hn] at hR
            have HR := Lib.hid hR
            clear hR
            gi_wp2_with fail
            exact HR.out _ _ rfl (Chg.refl _ _) HJ.out.s
          · obtain ⟨k0, -⟩ := cell_in (HJ.out.at5 hi0) 0 rfl
            have zk := box_lt (HJ.out.at5 hi0)
            try simp only [hn] at hR
            have HR := Lib.hid hR
            clear hR
            gi_wp2_with fail
            exact HR.out _ _ rfl (Chg.refl _ _) HJ.out.s
          · obtain ⟨k0, -⟩ := cell_in (HC9.out) 0 rfl
            have zk := box_lt HC9.out
            try simp only [hn] at hR
            have HR := Lib.hid hR
            clear hR
            gi_wp2_with fail
            exact HR.out _ _ rfl (Chg.refl _ _) HJ.out.s
          · try simp only [hn] at hR
            have HR := Lib.hid hR
            clear hR
            gi_wp2_with fail
            exact HR.out _ _ rfl (Chg.refl _ _) HJ.out.s
          · try simp only [hn] at hR
            have HR := Lib.hid hR
            clear hR
            gi_wp2_with fail
            refine ⟨trivial, (HAT.out _ HG9.out).mono ?_⟩
            rintro e w5 ⟨rfl, rfl⟩
            gi_wp2_with fail
            exact HR.out _ _ rfl (Chg.refl _ _) HJ.out.s
          · try simp only [hn] at hR
            have HR := Lib.hid hR
            clear hR
            gi_wp2_with fail
            exact HR.out _ _ rfl (Chg.refl _ _) HJ.out.s
          · obtain ⟨hj6, hc6⟩ := HJ.out.st0 (u := undef) (by simp [he]) HNE.out
            have J6 := Lib.hid (And.intro hj6 hc6)
            obtain ⟨k0, k0f⟩ := cell_in HJ.out.lo 0 rfl
            have zk := box_lt HJ.out.lo
            try simp only [hn] at hR
            have HR := Lib.hid hR
            clear hR hj6 hc6
            gi_wp2_with fail
            exact HR.out undef _ trivial J6.out.2 J6.out.1
          · obtain ⟨hj6, hc6⟩ := HJ.out.st5 (u := undef) (by simp [he]) HNE.out
            have J6 := Lib.hid (And.intro hj6 hc6)
            obtain ⟨k0, k0f⟩ := cell_in HJ.out.hi 0 rfl
            have zk := box_lt HJ.out.hi
            try simp only [hn] at hR
            have HR := Lib.hid hR
            clear hR hj6 hc6
            gi_wp2_with fail
            exact HR.out undef _ trivial J6.out.2 J6.out.1
        · intro vals w' hE hJ hn
          obtain ⟨fl, hall, hJ⟩ := hJ
          obtain ⟨f1, f2, f3, f4, f5, f6, f7⟩ := F.out
          have d1 := hJ.lo
          have d2 := hJ.hi
          rw [hall 10 (by decide)] at d1
          rw [hall 11 (by decide)] at d2
          exact ⟨stay2 hE f2 f3 (by omega) (by omega) f7, f1.chg hE (fun hs => by have := HT.out.lt; rcases hs with hs | hs <;> omega), ⟨_, _, d1, d2, HSN.out⟩, box_chg f5 hE (fun hs => by rcases hs with hs | hs <;> omega), grows_chg f6 hE (fun j hj => by rcases hj with rfl | rfl <;> omega)⟩
      case dn =>
        rintro D xs W7 hD hT7 ⟨h1, ⟨lo, hi, h2, h3, h6⟩, h5, h4⟩ hdf
        obtain ⟨q0, -⟩ := cell_in h2 0 rfl
        obtain ⟨q1, -⟩ := cell_in h3 0 rfl
        have zq := box_lt h2
        have zq1 := box_lt h3
        have hrg := h6.rng
        have hw1 : IntKind.i64.wrap (hi - lo) = hi - lo := IntWalk.i64_in _ (by omega)
        have HF := Lib.hid (And.intro hD (And.intro hT7 (And.intro h6 (And.intro h4 hdf))))
        clear hT3 hb3 hc3 hl3 hh3 h1 h2 h3 h4 h5 h6 hdf hD hT7 hrg hpp hb00
        go_wp2_with fail
        obtain ⟨hD, hT7, h6, h4, hdf⟩ := HF.out
        refine ⟨by simp, .inl ⟨_, _, rfl, run_takeDeferred hdf, ?_⟩⟩
        have hbel := (Rec.put (.deferred none) hD hdf rfl).below h4 (Nat.le_refl _) (hgw3.size)
        rw [hT7] at h6
        exact ⟨_, by simp [results, Tryd.results8, go_sem], hbel, .inr ⟨lo, hi, h6, (fun e => by have := HLH.out.1; rw [e] at this; cases this), rfl⟩⟩
end
end Go.Proofs.YthdcmchjlpkkaaaDoor.Tr
