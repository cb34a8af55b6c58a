/- The laws' helpers: a copy, whether two lists are the same, the chapter's example. -/
import Derived.Test.YthdcmchjlpkkaaaDoorMndH
namespace Go.Proofs.YthdcmchjlpkkaaaDoor.Tr
open Go.RowKit Go.Sort
set_option maxHeartbeats 4000000
set_option maxRecDepth 100000
theorem cut_any (v : Value) (l : List Int) (w : World) (h : IHas w v l) :
    Calls Tryd.prog 11 #[v] w (fun e w' => ∃ v', e = .returned v' ∧ Grows w w' ∧ IOwn w' w.heap.size v' (l.take 8)) := by
  obtain ⟨i0, hi, hz0, hz1, hz2⟩ := info_parts Tryd.infoI64
  obtain ⟨n, en⟩ : ∃ n, l.length = n := ⟨_, rfl⟩
  obtain ⟨k, ek⟩ : ∃ k, min n 8 = k := ⟨_, rfl⟩
  have hk1 : min (n : Int) 8 = (k : Int) := by omega
  have hk2 : k ≤ n := by omega
  have hk3 : k ≤ 8 := by omega
  have hkl : (l.take 8).length = k := by rw [List.length_take, en]; omega
  have hvl : ∃ a cap, v = .slice a n cap ∧ (n = 0 ∨ ∃ g o, a = some ⟨g, o, none⟩ ∧ n ≤ cap ∧ g < w.heap.size ∧ ∀ i, (h : i < l.length) → w.cell? ⟨g, o + i, none⟩ = some (.int .i64 l[i])) := by
    rcases h with ⟨rfl, a, cap, rfl⟩ | ⟨g, o, cap, rfl, h4, hg, hc⟩
    · exact ⟨a, cap, by rw [← en]; rfl, .inl (by rw [← en]; rfl)⟩
    · exact ⟨_, cap, by rw [← en], .inr ⟨g, o, rfl, by rw [← en]; exact h4, hg, hc⟩⟩
  obtain ⟨a, cap, rfl, hc⟩ := hvl
  clear h
  by_cases h0 : n = 0
  · obtain rfl : l = [] := List.eq_nil_of_length_eq_zero (by omega)
    subst h0
    obtain rfl : k = 0 := by omega
    clear hc en hkl
    have hm0 : min (0 : Int) 8 = 0 := by decide
    cases a
    · go_enter Tryd.func11, Tryd.ntmps11
      go_wp2_with fail
      go_ret
      exact ⟨_, rfl, bl_alloc (Below.refl _ _) _, iown_empty w _ rfl⟩
    · go_enter Tryd.func11, Tryd.ntmps11
      go_wp2_with fail
      go_ret
      exact ⟨_, rfl, bl_alloc (Below.refl _ _) _, iown_empty w _ rfl⟩
  · rcases hc with hc | ⟨g, o, rfl, hcap, hg, hc⟩
    · exact absurd hc h0
    · go_enter Tryd.func11, Tryd.ntmps11
      have HC := Lib.hid hc
      clear hc
      go_wp2_with (at_builtin; refine wpList_append_own _ rfl _ _ 27 rfl w.heap.size 2 i0 _ 1 8 Tryd.underlying27 hi hz0 hz1 hz2 rfl (by decide) _ 0 (iv []) rfl (iown_empty w _ rfl) ⟨g, o, none⟩ k cap (iv (l.take 8)) rfl (by rw [iv_length, hkl, Nat.mul_one]) ?c1 ?c2 ?c3 ?c4 ?c5 ?_)
      case c1 =>
        intro j u hj
        have hjl : j < (l.take 8).length := by have := List.getElem?_eq_some_iff.1 hj; rw [← iv_length]; exact this.1
        have hju : u = .int .i64 ((l.take 8)[j]) := by obtain ⟨h1, h2⟩ := List.getElem?_eq_some_iff.1 hj; rw [← h2]; simp [iv]
        rw [hju, addr_add, (bl_alloc (Below.refl w.heap.size w) (.cells #[] 2)).cell (p := ⟨g, o + j, none⟩) hg, HC.out j (by omega)]
        simp
      case c2 => exact iv_one _
      case c3 => simp; unfold maxLen; omega
      case c4 => simp; omega
      case c5 => simp
      intro v' w1 hown2 hgrow _
      have hg2 : Grows w w1 := grows_of_grownBy (bl_alloc (Below.refl _ _) _) hgrow (fun kk hkk => by simp [Value.ownBlock] at hkk; omega)
      have HO2 := Lib.hid hown2
      have HG2 := Lib.hid hg2
      clear hown2 hgrow hg2
      go_wp2_with fail
      go_ret
      refine ⟨_, rfl, HG2.out, ?_⟩
      have := HO2.out
      simp only [Nat.zero_add, iv, List.map_nil, List.nil_append] at this
      unfold IOwn
      rw [hkl]
      exact this
theorem same_any (va vb : Value) (a b : List Int) (w : World) (ha : IHas w va a) (hb : IHas w vb b) (hm : a.length ≤ 1000) (hmb : b.length ≤ 1000) :
    Calls Tryd.prog 14 #[va, vb] w (RetV w (.bool (decide (a = b)))) := by
  obtain ⟨n, en⟩ : ∃ n, a.length = n := ⟨_, rfl⟩
  obtain ⟨m, em⟩ : ∃ m, b.length = m := ⟨_, rfl⟩
  by_cases hnm : n = m
  · subst hnm
    by_cases h0 : n = 0
    · obtain rfl : a = [] := List.eq_nil_of_length_eq_zero (by omega)
      obtain rfl : b = [] := List.eq_nil_of_length_eq_zero (by omega)
      obtain ⟨p, cp, rfl⟩ := ha.nil_form rfl
      obtain ⟨q, cq, rfl⟩ := hb.nil_form rfl
      rw [decide_eq_true rfl]
      clear ha hb
      go_enter Tryd.func14, Tryd.ntmps14
      go_wp2_with fail
      go_loop [13] (fun k => k = .int .i64 0) (fun _ => 0)
      case atStart => rfl
      case round =>
        subst hrel
        go_wp2_with fail
        go_ret
        exact ⟨rfl, Below.refl _ _⟩
    · obtain ⟨g, o, cap, rfl, hcap, hgw⟩ := ha.form en (by omega)
      obtain ⟨g', o', cap', rfl, hcap', hgw'⟩ := hb.form em (by omega)
      have HA := Lib.hid ha
      have HB := Lib.hid hb
      have EA := Lib.hid en
      have EB := Lib.hid em
      rw [en] at hm
      clear ha hb en em hmb
      go_enter Tryd.func14, Tryd.ntmps14
      go_wp2_with fail
      go_loopw [13] (fun vi wr => ∃ k : Nat, vi = .int .i64 (k : Int) ∧ k ≤ n ∧ Grows w wr ∧ a.take k = b.take k) (fun vi _ => n - (intOf vi).toNat)
      case atStart => exact ⟨0, rfl, by omega, Below.refl _ _, rfl⟩
      case round =>
        obtain ⟨k, rfl, hk, hgr, htk⟩ := hrel
        have HG := Lib.hid hgr
        have HTK := Lib.hid htk
        clear hgr htk
        by_cases hlt : k < n
        · have hka : k < a.length := by rw [EA.out]; exact hlt
          have hkb : k < b.length := by rw [EB.out]; exact hlt
          have hca : wr.cell? ⟨g, o + k, none⟩ = some (.int .i64 a[k]) ∧ g < wr.heap.size := by
            rcases HA.out with ⟨rfl, _⟩ | ⟨g', o', cap', he, h4, hg, hc⟩
            · simp at hka
            · simp only [Value.slice.injEq, Option.some.injEq, Addr.mk.injEq] at he
              obtain ⟨⟨rfl, rfl, _⟩, _, rfl⟩ := he
              exact ⟨(HG.out.cell (p := ⟨g, o + k, none⟩) hg).trans (hc k hka), Nat.lt_of_lt_of_le hg HG.out.size⟩
          have hcb : wr.cell? ⟨g', o' + k, none⟩ = some (.int .i64 b[k]) ∧ g' < wr.heap.size := by
            rcases HB.out with ⟨rfl, _⟩ | ⟨g', o', cap', he, h4, hg, hc⟩
            · simp at hkb
            · simp only [Value.slice.injEq, Option.some.injEq, Addr.mk.injEq] at he
              obtain ⟨⟨rfl, rfl, _⟩, _, rfl⟩ := he
              exact ⟨(HG.out.cell (p := ⟨g', o' + k, none⟩) hg).trans (hc k hkb), Nat.lt_of_lt_of_le hg HG.out.size⟩
          obtain ⟨hca, hga⟩ := hca
          obtain ⟨hcb, hgb⟩ := hcb
          have hsa := List.take_succ_eq_append_getElem hka
          have hsb := List.take_succ_eq_append_getElem hkb
          obtain ⟨x, ex⟩ : ∃ x, a[k] = x := ⟨_, rfl⟩
          obtain ⟨y, ey⟩ : ∃ y, b[k] = y := ⟨_, rfl⟩
          rw [ex] at hca hsa
          rw [ey] at hcb hsb
          have HSA := Lib.hid hsa
          have HSB := Lib.hid hsb
          have EX := Lib.hid ex
          have EY := Lib.hid ey
          clear hsa hsb ex ey
          by_cases hxy : x = y
          · subst hxy
            go_wp2_with fail
            refine wp_region_quiet_lit (by kernel_rfl) (by kernel_rfl) ?_
            repeat (first | go_big_quiet_step (fail) | quiet_step (fail))
            refine wpQuiet_nil ?_
            intro _ hcw1
            obtain ⟨nq, hcw2⟩ := hcw1
            subst hcw2
            go_wp2_with fail
            go_roundw
            case rel => exact ⟨k + 1, by go_num, by omega, grows_trans _ _ _ HG.out (bl_drewN (Below.refl _ _) _), by rw [HSA.out, HSB.out, HTK.out]⟩
            case measure => simp [intOf]; omega
          · have hne : ¬ a = b := fun e => hxy (by rw [← EX.out, ← EY.out]; subst e; rfl)
            rw [decide_eq_false hne]
            have HN := Lib.hid hne
            have hb1 : (x == y) = false := by simp [hxy]
            clear hne
            go_wp2_with fail
            refine wp_region_quiet_lit (by kernel_rfl) (by kernel_rfl) ?_
            repeat (first | go_big_quiet_step (fail) | quiet_step (fail))
            refine wpQuiet_nil ?_
            intro _ hcw1
            obtain ⟨nq, hcw2⟩ := hcw1
            subst hcw2
            go_wp2_with fail
            go_ret
            exact ⟨rfl, grows_trans _ _ _ HG.out (bl_drewN (Below.refl _ _) _)⟩
        · obtain rfl : k = n := by omega
          have he : a = b := by
            have := HTK.out
            rwa [List.take_of_length_le (Nat.le_of_eq EA.out), List.take_of_length_le (Nat.le_of_eq EB.out)] at this
          have HE := Lib.hid he
          clear he
          go_wp2_with fail
          go_ret
          rw [decide_eq_true HE.out]
          exact ⟨rfl, HG.out⟩
  · have hne : ¬ a = b := fun e => hnm (by rw [← en, ← em, e])
    rw [decide_eq_false hne]
    have hva : ∃ p cp, va = .slice p n cp := by
      rcases ha with ⟨rfl, p, cap, rfl⟩ | ⟨g, o, cap, rfl, h4, hg, hc⟩
      · exact ⟨p, cap, by rw [← en]; rfl⟩
      · exact ⟨_, cap, by rw [← en]⟩
    have hvb : ∃ p cp, vb = .slice p m cp := by
      rcases hb with ⟨rfl, p, cap, rfl⟩ | ⟨g, o, cap, rfl, h4, hg, hc⟩
      · exact ⟨p, cap, by rw [← em]; rfl⟩
      · exact ⟨_, cap, by rw [← em]⟩
    obtain ⟨p, cp, rfl⟩ := hva
    obtain ⟨q, cq, rfl⟩ := hvb
    have hb1 : ((n : Int) == (m : Int)) = false := by simp; omega
    have hnm2 : ¬ (n : Int) = (m : Int) := by omega
    clear ha hb hne en em
    go_enter Tryd.func14, Tryd.ntmps14
    go_wp2_with fail
    go_ret
    exact ⟨rfl, Below.refl _ _⟩
theorem ex_ins (f : Int) (l : List Int) : trimI f l = ((insAll l).drop (cutN f l.length)).take (l.length - 2 * cutN f l.length) := by unfold trimI; rw [insAll_eq]
theorem ex_one : oneI [10, 40, 70] [] [] (listN (7 &&& allN 3)) 1 = [40, 40, 40] := by
  have e1 : listN (7 &&& allN 3) = [0, 1, 2] := by decide +kernel
  have m1 : midT 1 [0, 30, 60] = 30 := by unfold midT; rw [if_neg (by decide), ex_ins]; decide +kernel
  have m2 : midT 1 [-30, 0, 30] = 0 := by unfold midT; rw [if_neg (by decide), ex_ins]; decide +kernel
  have m3 : midT 1 [-60, -30, 0] = -30 := by unfold midT; rw [if_neg (by decide), ex_ins]; decide +kernel
  have r1 : readsI [10, 40, 70] [] [0, 1, 2] 0 = [0, 30, 60] := by decide +kernel
  have r2 : readsI [10, 40, 70] [] [0, 1, 2] 1 = [-30, 0, 30] := by decide +kernel
  have r3 : readsI [10, 40, 70] [] [0, 1, 2] 2 = [-60, -30, 0] := by decide +kernel
  rw [e1]
  unfold oneI
  rw [show List.range ([10, 40, 70] : List Int).length = [0, 1, 2] by decide]
  simp only [List.map_cons, List.map_nil, outI, r1, r2, r3, m1, m2, m3]
  decide +kernel
theorem ex_spread {lo hi : Int} (h : LoHi [10, 40, 70] (5 &&& allN 3) (listN (5 &&& allN 3)) lo hi) : hi - lo = 60 := by
  have e1 : listN (5 &&& allN 3) = [0, 2] := by decide +kernel
  obtain ⟨⟨p, hp, e2⟩, ⟨q, hq, e3⟩, h4⟩ := h
  rw [e1] at hp hq h4
  have a0 : atI [10, 40, 70] (0 : Int).toNat = 10 := by decide +kernel
  have a2 : atI [10, 40, 70] (2 : Int).toNat = 70 := by decide +kernel
  have h5 := h4 0 (by simp)
  have h6 := h4 2 (by simp)
  rw [a0] at h5
  rw [a2] at h6
  have hp2 : lo = 10 ∨ lo = 70 := by
    simp only [List.mem_cons, List.not_mem_nil, or_false] at hp
    rcases hp with rfl | rfl
    · rw [a0] at e2; exact .inl e2
    · rw [a2] at e2; exact .inr e2
  have hq2 : hi = 10 ∨ hi = 70 := by
    simp only [List.mem_cons, List.not_mem_nil, or_false] at hq
    rcases hq with rfl | rfl
    · rw [a0] at e3; exact .inl e3
    · rw [a2] at e3; exact .inr e3
  omega
theorem ihas_lit (w : World) : IHas (w.alloc (.cells #[.int .i64 10, .int .i64 40, .int .i64 70] 2)) (.slice (some ⟨w.heap.size, 0, none⟩) 3 3) [10, 40, 70] := by
  refine .inr ⟨w.heap.size, 0, 3, rfl, by simp, by simp, fun i hi => ?_⟩
  have hn := heap_alloc_new w (.cells #[.int .i64 10, .int .i64 40, .int .i64 70] 2)
  have hi3 : i = 0 ∨ i = 1 ∨ i = 2 := by simp at hi; omega
  rcases hi3 with rfl | rfl | rfl
  · exact (cell_in hn 0 rfl).1
  · exact (cell_in hn 1 rfl).1
  · exact (cell_in hn 2 rfl).1
theorem mendWorks_any (w : World) (hT : Laid w) : Calls Tryd.prog 9 #[] w (RetV w (.bool true)) := by
  obtain ⟨W, eW⟩ : ∃ W, w.alloc (.cells #[.int .i64 10, .int .i64 40, .int .i64 70] 2) = W := ⟨_, rfl⟩
  have hgW : Grows w W := by rw [← eW]; exact bl_alloc (Below.refl _ _) _
  have h1 := one_any (w := W) (s := 7) (vE := .slice none 0 0) (vD := .slice none 0 0) (D := []) (E := []) 1 (by rw [← eW]; exact ihas_lit w) ⟨.inl ⟨rfl, _, _, rfl⟩, fun r hr => by cases hr⟩ (.inl ⟨rfl, _, _, rfl⟩) (by decide) (hT.grows hgW) (by decide) (by decide)
  have H1 := Lib.hid h1
  have HT := Lib.hid hT
  have HGW := Lib.hid hgW
  clear h1 hT hgW
  go_enter Tryd.func9, Tryd.ntmps9
  go_wp2_with fail
  refine H1.out.mono ?_
  rintro e w1 ⟨v1, rfl, hg1, hh1⟩
  have hh1' : IHas w1 v1 [40, 40, 40] := by have := hh1; rw [show (errsOf []) = [] from rfl, show ([10, 40, 70] : List Int).length = 3 from rfl, ex_one] at this; exact this
  obtain ⟨g, o, cap, rfl, hcap, hgz, hcell⟩ := hh1'.at (n := 3) rfl (by decide)
  have G1 := Lib.hid (grows_trans _ _ _ HGW.out hg1)
  have C1 := Lib.hid (And.intro hgz (And.intro (hcell 0 (by decide)) (And.intro (hcell 1 (by decide)) (hcell 2 (by decide)))))
  clear hh1 hg1 hh1' hgz hcell eW
  obtain ⟨W2, eW2⟩ : ∃ W2, w1.alloc (.cells #[.int .i64 10, .int .i64 40, .int .i64 70] 2) = W2 := ⟨_, rfl⟩
  have hg2 : Grows w1 W2 := by rw [← eW2]; exact bl_alloc (Below.refl _ _) _
  have H2 := Lib.hid (spread_any (w := W2) (s := 5) (by rw [← eW2]; exact ihas_lit w1) (by decide) (HT.out.grows (grows_trans _ _ _ G1.out hg2)))
  have G2 := Lib.hid hg2
  clear hg2
  go_wp2_with fail
  refine H2.out.mono ?_
  rintro e w3 ⟨hg3, ⟨hnil, -⟩ | ⟨lo, hi, hlh, -, rfl⟩⟩
  · exact absurd hnil (by decide +kernel)
  · rw [ex_spread hlh]
    have gg := grows_trans _ _ _ G2.out hg3
    have G3 := Lib.hid (grows_trans _ _ _ G1.out gg)
    have k0 := (gg.cell (p := ⟨g, o + 0, none⟩) C1.out.1).trans C1.out.2.1
    have k1 := (gg.cell (p := ⟨g, o + 1, none⟩) C1.out.1).trans C1.out.2.2.1
    have k2 := (gg.cell (p := ⟨g, o + 2, none⟩) C1.out.1).trans C1.out.2.2.2
    have zg := Nat.lt_of_lt_of_le C1.out.1 gg.size
    simp only [List.getElem_cons_zero, List.getElem_cons_succ, Nat.add_zero] at k0 k1 k2
    clear hlh gg hg3 eW2
    go_wp2_with fail
    go_ret
    exact ⟨rfl, G3.out⟩
end Go.Proofs.YthdcmchjlpkkaaaDoor.Tr
