/- The laws' helpers: a copy, whether two lists are the same, the chapter's example. -/
import Derived.Test.YtihfcaconbcdjaaTrimH
namespace Go.Proofs.Ytihfcaconbcdjaa
open Go.RowKit Go.Sort
set_option maxHeartbeats 1000000
set_option maxRecDepth 100000

theorem cut_any (v : Value) (l : List Int) (w : World) (h : IHas w v l) :
    Calls Try.prog 13 #[v] w (fun e w' => ∃ v', e = .returned v' ∧ Grows w w' ∧ IOwn w' w.heap.size v' (l.take 40)) := by
  obtain ⟨i0, hi, hz0, hz1, hz2⟩ := info_parts Try.infoI64
  obtain ⟨n, en⟩ : ∃ n, l.length = n := ⟨_, rfl⟩
  obtain ⟨k, ek⟩ : ∃ k, min n 40 = k := ⟨_, rfl⟩
  have hk1 : min (n : Int) 40 = (k : Int) := by omega
  have hk2 : k ≤ n := by omega
  have hk3 : k ≤ 40 := by omega
  have hkl : (l.take 40).length = k := by rw [List.length_take, en]; omega
  have hvl : ∃ a cap, v = .slice a n cap ∧ (n = 0 ∨ ∃ g o, a = some ⟨g, o, none⟩ ∧ n ≤ cap ∧ g < w.heap.size ∧ ∀ i, (h : i < l.length) → w.cell? ⟨g, o + i, none⟩ = some (.int .i64 l[i])) := by
    rcases h with ⟨rfl, a, cap, rfl⟩ | ⟨g, o, cap, rfl, h4, hg, hc⟩
    · exact ⟨a, cap, by rw [← en]; rfl, .inl (by rw [← en]; rfl)⟩
    · exact ⟨_, cap, by rw [← en], .inr ⟨g, o, rfl, by rw [← en]; exact h4, hg, hc⟩⟩
  obtain ⟨a, cap, rfl, hc⟩ := hvl
  clear h
  by_cases h0 : n = 0
  · obtain rfl : l = [] := List.eq_nil_of_length_eq_zero (by omega)
    subst h0
    obtain rfl : k = 0 := by omega
    clear hc en hkl
    have hm0 : min (0 : Int) 40 = 0 := by decide
    cases a
    · go_enter Try.func13, Try.ntmps13
      go_wp2_with fail
      go_ret
      exact ⟨_, rfl, bl_alloc (Below.refl _ _) _, iown_empty w _ rfl⟩
    · go_enter Try.func13, Try.ntmps13
      go_wp2_with fail
      go_ret
      exact ⟨_, rfl, bl_alloc (Below.refl _ _) _, iown_empty w _ rfl⟩
  · rcases hc with hc | ⟨g, o, rfl, hcap, hg, hc⟩
    · exact absurd hc h0
    · go_enter Try.func13, Try.ntmps13
      have HC := Lib.hid hc
      clear hc
      go_wp2_with (at_builtin; refine wpList_append_own _ rfl _ _ 22 rfl w.heap.size 2 i0 _ 1 8 Try.underlying22 hi hz0 hz1 hz2 rfl (by decide) _ 0 (iv []) rfl (iown_empty w _ rfl) ⟨g, o, none⟩ k cap (iv (l.take 40)) rfl (by rw [iv_length, hkl, Nat.mul_one]) ?c1 ?c2 ?c3 ?c4 ?c5 ?_)
      case c1 =>
        intro j u hj
        have hjl : j < (l.take 40).length := by have := List.getElem?_eq_some_iff.1 hj; rw [← iv_length]; exact this.1
        have hju : u = .int .i64 ((l.take 40)[j]) := by obtain ⟨h1, h2⟩ := List.getElem?_eq_some_iff.1 hj; rw [← h2]; simp [iv]
        rw [hju, addr_add, (bl_alloc (Below.refl w.heap.size w) (.cells #[] 2)).cell (p := ⟨g, o + j, none⟩) hg, HC.out j (by omega)]
        simp
      case c2 => exact iv_one _
      case c3 => simp; unfold maxLen; omega
      case c4 => simp; omega
      case c5 => simp
      intro v' w1 hown2 hgrow _
      have hg2 : Grows w w1 := grows_of_grownBy (bl_alloc (Below.refl _ _) _) hgrow (fun kk hkk => by simp [Value.ownBlock] at hkk; omega)
      have HO2 := Lib.hid hown2
      have HG2 := Lib.hid hg2
      clear hown2 hgrow hg2
      go_wp2_with fail
      go_ret
      refine ⟨_, rfl, HG2.out, ?_⟩
      have := HO2.out
      simp only [Nat.zero_add, iv, List.map_nil, List.nil_append] at this
      unfold IOwn
      rw [hkl]
      exact this
theorem same_any (va vb : Value) (a b : List Int) (w : World) (ha : IHas w va a) (hb : IHas w vb b) (hm : a.length ≤ 1000) (hmb : b.length ≤ 1000) :
    Calls Try.prog 14 #[va, vb] w (RetV w (.bool (decide (a = b)))) := by
  obtain ⟨n, en⟩ : ∃ n, a.length = n := ⟨_, rfl⟩
  obtain ⟨m, em⟩ : ∃ m, b.length = m := ⟨_, rfl⟩
  by_cases hnm : n = m
  · subst hnm
    by_cases h0 : n = 0
    · obtain rfl : a = [] := List.eq_nil_of_length_eq_zero (by omega)
      obtain rfl : b = [] := List.eq_nil_of_length_eq_zero (by omega)
      obtain ⟨p, cp, rfl⟩ := ha.nil_form rfl
      obtain ⟨q, cq, rfl⟩ := hb.nil_form rfl
      rw [decide_eq_true rfl]
      clear ha hb
      go_enter Try.func14, Try.ntmps14
      go_wp2_with fail
      go_loop [13] (fun k => k = .int .i64 0) (fun _ => 0)
      case atStart => rfl
      case round =>
        subst hrel
        go_wp2_with fail
        go_ret
        exact ⟨rfl, Below.refl _ _⟩
    · obtain ⟨g, o, cap, rfl, hcap, hgw⟩ := ha.form en (by omega)
      obtain ⟨g', o', cap', rfl, hcap', hgw'⟩ := hb.form em (by omega)
      have HA := Lib.hid ha
      have HB := Lib.hid hb
      have EA := Lib.hid en
      have EB := Lib.hid em
      rw [en] at hm
      clear ha hb en em hmb
      go_enter Try.func14, Try.ntmps14
      go_wp2_with fail
      go_loopw [13] (fun vi wr => ∃ k : Nat, vi = .int .i64 (k : Int) ∧ k ≤ n ∧ Grows w wr ∧ a.take k = b.take k) (fun vi _ => n - (intOf vi).toNat)
      case atStart => exact ⟨0, rfl, by omega, Below.refl _ _, rfl⟩
      case round =>
        obtain ⟨k, rfl, hk, hgr, htk⟩ := hrel
        have HG := Lib.hid hgr
        have HTK := Lib.hid htk
        clear hgr htk
        by_cases hlt : k < n
        · have hka : k < a.length := by rw [EA.out]; exact hlt
          have hkb : k < b.length := by rw [EB.out]; exact hlt
          have hca : wr.cell? ⟨g, o + k, none⟩ = some (.int .i64 a[k]) ∧ g < wr.heap.size := by
            rcases HA.out with ⟨rfl, _⟩ | ⟨g', o', cap', he, h4, hg, hc⟩
            · simp at hka
            · simp only [Value.slice.injEq, Option.some.injEq, Addr.mk.injEq] at he
              obtain ⟨⟨rfl, rfl, _⟩, _, rfl⟩ := he
              exact ⟨(HG.out.cell (p := ⟨g, o + k, none⟩) hg).trans (hc k hka), Nat.lt_of_lt_of_le hg HG.out.size⟩
          have hcb : wr.cell? ⟨g', o' + k, none⟩ = some (.int .i64 b[k]) ∧ g' < wr.heap.size := by
            rcases HB.out with ⟨rfl, _⟩ | ⟨g', o', cap', he, h4, hg, hc⟩
            · simp at hkb
            · simp only [Value.slice.injEq, Option.some.injEq, Addr.mk.injEq] at he
              obtain ⟨⟨rfl, rfl, _⟩, _, rfl⟩ := he
              exact ⟨(HG.out.cell (p := ⟨g', o' + k, none⟩) hg).trans (hc k hkb), Nat.lt_of_lt_of_le hg HG.out.size⟩
          obtain ⟨hca, hga⟩ := hca
          obtain ⟨hcb, hgb⟩ := hcb
          have hsa := List.take_succ_eq_append_getElem hka
          have hsb := List.take_succ_eq_append_getElem hkb
          obtain ⟨x, ex⟩ : ∃ x, a[k] = x := ⟨_, rfl⟩
          obtain ⟨y, ey⟩ : ∃ y, b[k] = y := ⟨_, rfl⟩
          rw [ex] at hca hsa
          rw [ey] at hcb hsb
          have HSA := Lib.hid hsa
          have HSB := Lib.hid hsb
          have EX := Lib.hid ex
          have EY := Lib.hid ey
          clear hsa hsb ex ey
          by_cases hxy : x = y
          · subst hxy
            go_wp2_with fail
            refine wp_region_quiet_lit (by kernel_rfl) (by kernel_rfl) ?_
            repeat (first | go_big_quiet_step (fail) | quiet_step (fail))
            refine wpQuiet_nil ?_
            intro _ hcw1
            obtain ⟨nq, hcw2⟩ := hcw1
            subst hcw2
            go_wp2_with fail
            go_roundw
            case rel => exact ⟨k + 1, by go_num, by omega, grows_trans _ _ _ HG.out (bl_drewN (Below.refl _ _) _), by rw [HSA.out, HSB.out, HTK.out]⟩
            case measure => simp [intOf]; omega
          · have hne : ¬ a = b := fun e => hxy (by rw [← EX.out, ← EY.out]; subst e; rfl)
            rw [decide_eq_false hne]
            have HN := Lib.hid hne
            have hb1 : (x == y) = false := by simp [hxy]
            clear hne
            go_wp2_with fail
            refine wp_region_quiet_lit (by kernel_rfl) (by kernel_rfl) ?_
            repeat (first | go_big_quiet_step (fail) | quiet_step (fail))
            refine wpQuiet_nil ?_
            intro _ hcw1
            obtain ⟨nq, hcw2⟩ := hcw1
            subst hcw2
            go_wp2_with fail
            go_ret
            exact ⟨rfl, grows_trans _ _ _ HG.out (bl_drewN (Below.refl _ _) _)⟩
        · obtain rfl : k = n := by omega
          have he : a = b := by
            have := HTK.out
            rwa [List.take_of_length_le (Nat.le_of_eq EA.out), List.take_of_length_le (Nat.le_of_eq EB.out)] at this
          have HE := Lib.hid he
          clear he
          go_wp2_with fail
          go_ret
          rw [decide_eq_true HE.out]
          exact ⟨rfl, HG.out⟩
  · have hne : ¬ a = b := fun e => hnm (by rw [← en, ← em, e])
    rw [decide_eq_false hne]
    have hva : ∃ p cp, va = .slice p n cp := by
      rcases ha with ⟨rfl, p, cap, rfl⟩ | ⟨g, o, cap, rfl, h4, hg, hc⟩
      · exact ⟨p, cap, by rw [← en]; rfl⟩
      · exact ⟨_, cap, by rw [← en]⟩
    have hvb : ∃ p cp, vb = .slice p m cp := by
      rcases hb with ⟨rfl, p, cap, rfl⟩ | ⟨g, o, cap, rfl, h4, hg, hc⟩
      · exact ⟨p, cap, by rw [← em]; rfl⟩
      · exact ⟨_, cap, by rw [← em]⟩
    obtain ⟨p, cp, rfl⟩ := hva
    obtain ⟨q, cq, rfl⟩ := hvb
    have hb1 : ((n : Int) == (m : Int)) = false := by simp; omega
    have hnm2 : ¬ (n : Int) = (m : Int) := by omega
    clear ha hb hne en em
    go_enter Try.func14, Try.ntmps14
    go_wp2_with fail
    go_ret
    exact ⟨rfl, Below.refl _ _⟩
end Go.Proofs.Ytihfcaconbcdjaa
