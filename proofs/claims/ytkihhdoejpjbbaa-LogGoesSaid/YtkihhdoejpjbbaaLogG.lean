/- The document's Between; whether two lists of entries are the same. -/
import Derived.Test.YtkihhdoejpjbbaaLogF
namespace Go.Proofs.Ytkihhdoejpjbbaa
open Go.RowKit Go.Sort
set_option maxHeartbeats 2000000
set_option maxRecDepth 100000

theorem betweenC_take (c : List EC) (lo hi : Int) (k : Nat) (x : EC) (hx : c[k]? = some x) : betweenC (c.take (k + 1)) lo hi = if lo ≤ x.2.1.t ∧ x.2.1.t ≤ hi then betweenC (c.take k) lo hi ++ [x] else betweenC (c.take k) lo hi := by
  obtain ⟨hk, rfl⟩ := List.getElem?_eq_some_iff.1 hx
  unfold betweenC
  rw [List.take_succ_eq_append_getElem hk, List.filter_append]
  by_cases h1 : lo ≤ c[k].2.1.t
  · by_cases h2 : c[k].2.1.t ≤ hi
    · simp [h1, h2]
    · simp [h1, h2]
  · simp [h1]
theorem betweenC_length (c : List EC) (lo hi : Int) : (betweenC c lo hi).length ≤ c.length := List.length_filter_le _ _

theorem rbetween_any (v : Value) (l : List EW) (lo hi : Int) (w : World) (h : EOwn w 0 v l) (hb : Bods w l) (hm : l.length ≤ 100000) :
    Calls Try.prog 35 #[v, .int .i64 lo, .int .i64 hi] w (fun e w' => ∃ v', e = .returned v' ∧ Grows w w' ∧ EList w' w.heap.size v' (betweenC (cores l) lo hi)) := by
  obtain ⟨i0, hi0, hz0, hz1, hz2⟩ := info_parts Try.infoEnt
  obtain ⟨n, en⟩ : ∃ n, l.length = n := ⟨_, rfl⟩
  have hh := eown_has h hb
  obtain ⟨a, cap, rfl⟩ := hh.len en
  have HH := Lib.hid hh
  have EN := Lib.hid en
  have HB0 := Lib.hid hb
  rw [en] at hm
  clear h hh hb en
  go_enter Try.func35, Try.ntmps35
  go_wp2_with fail
  go_loopw [7, 8] (fun vo vi wr => ∃ k : Nat, vi = .int .i64 (k : Int) ∧ k ≤ n ∧ Grows w wr ∧ ∃ l2, EOwn wr w.heap.size vo l2 ∧ Bods wr l2 ∧ cores l2 = betweenC ((cores l).take k) lo hi) (fun _ vi _ => n - (intOf vi).toNat)
  case atStart => exact ⟨0, rfl, Nat.zero_le _, bl_alloc (Below.refl _ _) _, [], World.ownsRow_lit w #[] 0 (Nat.le_refl _) (by decide) rfl, fun x hx => by simp at hx, rfl⟩
  case round =>
    obtain ⟨k, rfl, hk, hgr, l2, hown, hbod, hcor⟩ := hrel
    have HG := Lib.hid hgr
    have HO := Lib.hid hown
    have HB := Lib.hid hbod
    have HC := Lib.hid hcor
    clear hgr hown hbod hcor
    by_cases hlt : k < n
    · have hk6 : k ≤ 1000000 := Nat.le_trans (Nat.le_of_lt hlt) (Nat.le_trans hm (by decide))
      have HNF := Lib.hid (nat_facts k hk6)
      have HWS := Lib.hid (wrap_succ hk6)
      have HKK := Lib.hid hlt
      have hl2 : l2.length ≤ 100000 := by
        have h1 := congrArg List.length HC.out
        have h2 := betweenC_length ((cores l).take k) lo hi
        simp at h1 h2
        omega
      have HL2 := Lib.hid hl2
      obtain ⟨g, o, c', he, hcap, hg, hat⟩ := HH.out.form EN.out (Nat.lt_of_le_of_lt (Nat.zero_le _) hlt)
      simp only [Value.slice.injEq, true_and] at he
      obtain ⟨rfl, rfl⟩ := he
      have hkl : k < l.length := by rw [EN.out]; exact hlt
      obtain ⟨q0, q1, q2, q3, q4⟩ := eat_cells hat k hkl
      obtain ⟨x, ex⟩ : ∃ x, l[k] = x := ⟨_, rfl⟩
      have hxm : x ∈ l := by rw [← ex]; exact List.getElem_mem _
      have hxc : (cores l)[k]? = some x.core := by rw [List.getElem?_map, List.getElem?_eq_getElem hkl, ex]; rfl
      have hst := betweenC_take (cores l) lo hi k _ hxc
      rw [ex] at q0 q1 q2 q3 q4
      have p0 := (HG.out.cell (p := ⟨g, o + k * 5, none⟩) hg).trans q0
      have p1 := (HG.out.cell (p := ⟨g, o + k * 5 + 1, none⟩) hg).trans q1
      have p2 := (HG.out.cell (p := ⟨g, o + k * 5 + 2, none⟩) hg).trans q2
      have p3 := (HG.out.cell (p := ⟨g, o + k * 5 + 3, none⟩) hg).trans q3
      have p4 := (HG.out.cell (p := ⟨g, o + k * 5 + 4, none⟩) hg).trans q4
      have hgw : g < wr.heap.size := Nat.lt_of_lt_of_le hg HG.out.size
      have HBX := Lib.hid (own_grows (HB0.out x hxm) HG.out)
      have hws := HG.out.size
      simp only at hst
      clear hat q0 q1 q2 q3 q4 ex hxm hxc hkl hl2 hm hk6 hk
      obtain ⟨j1, j2, j3, j4, j6⟩ := HNF.out
      have hkn : (k : Int) < (n : Int) := Int.ofNat_lt.2 hlt
      by_cases h1 : lo ≤ x.k.t
      · by_cases h2 : x.k.t ≤ hi
        · rw [if_pos ⟨h1, h2⟩] at hst
          have HST := Lib.hid hst
          clear hst
          go_wp2_with (at_builtin; refine wpList_append_own _ rfl _ _ 47 rfl w.heap.size 56 i0 _ 5 56 Try.underlying47 hi0 hz0 hz1 hz2 rfl (by decide) _ l2.length (evs l2) rfl (HO.out.alloc _) ⟨wr.heap.size, 0, none⟩ 1 1 [.int .i64 x.a, .int .i64 x.k.t, .int .i64 x.k.f, .int .u32 x.k.s, .slice x.ba x.bl x.bc] rfl rfl ?aq1 ?aq2 ?aq3 ?aq4 ?aq5 ?_)
          case aq1 => exact World.news_of_block (heap_alloc_new wr _)
          case aq2 => exact ev_one x
          case aq3 => have := HL2.out; unfold maxLen; omega
          case aq4 => have := HL2.out; omega
          case aq5 => simp; omega
          intro v' w3 hown3 hgrow _
          have hg3 : Grows w w3 := grows_of_grownBy (bl_alloc HG.out _) hgrow (fun kk hkk => (HO.out.lt kk hkk).1)
          have hch : Chg (fun k => u7.ownBlock = some k) wr w3 := (Chg.alloc (Chg.refl _ _) _).trans (Chg.ofRow hgrow)
          have hnb : NoBytes wr (fun k => u7.ownBlock = some k) := own_noBytes HO.out
          have hl3 : ∃ l3, EOwn w3 w.heap.size v' l3 ∧ Bods w3 l3 ∧ cores l3 = betweenC ((cores l).take (k + 1)) lo hi := by
            refine ⟨l2 ++ [x], ?_, ?_, ?_⟩
            · show World.ownsRow _ _ _ _ _ _ _
              rw [List.length_append, evs, List.flatMap_append]
              simpa using hown3
            · intro z hz
              rw [List.mem_append] at hz
              rcases hz with hz | hz
              · exact brow_chg (HB.out z hz) hch hnb
              · simp at hz
                subst hz
                exact brow_chg HBX.out hch hnb
            · rw [HST.out, ← HC.out]
              simp
          have HL3 := Lib.hid hl3
          have HG3 := Lib.hid hg3
          clear hown3 hgrow hg3 hch hnb hl3
          go_wp2_with fail
          go_roundw
          case rel => exact ⟨k + 1, by rw [HWS.out]; rfl, HKK.out, HG3.out, HL3.out⟩
          case measure => rw [HWS.out]; exact meas_succ HKK.out
        · rw [if_neg (fun hc => h2 hc.2)] at hst
          have HST := Lib.hid (HC.out.trans hst.symm)
          clear hst
          go_wp2_with fail
          go_roundw
          case rel => exact ⟨k + 1, by rw [HWS.out]; rfl, HKK.out, HG.out, l2, HO.out, HB.out, HST.out⟩
          case measure => rw [HWS.out]; exact meas_succ HKK.out
      · rw [if_neg (fun hc => h1 hc.1)] at hst
        have HST := Lib.hid (HC.out.trans hst.symm)
        clear hst
        go_wp2_with fail
        go_roundw
        case rel => exact ⟨k + 1, by rw [HWS.out]; rfl, HKK.out, HG.out, l2, HO.out, HB.out, HST.out⟩
        case measure => rw [HWS.out]; exact meas_succ HKK.out
    · obtain rfl : k = n := Nat.le_antisymm hk (Nat.le_of_not_lt hlt)
      have hall : (cores l).take k = cores l := List.take_of_length_le (by simp; rw [EN.out]; exact Nat.le_refl _)
      have hc2 := HC.out
      rw [hall] at hc2
      have HC2 := Lib.hid hc2
      clear hall hc2 hk hlt hm
      go_wp2_with fail
      go_ret
      exact ⟨_, rfl, HG.out, l2, HO.out, HB.out, HC2.out⟩

theorem all_any (va vb : Value) (la lb : List EW) (w : World) (ha : EHas w va la) (hb : EHas w vb lb) (hm : la.length ≤ 100000) (hc : cores la = cores lb) :
    Calls Try.prog 33 #[va, vb] w (RetV w (.bool true)) := by
  obtain ⟨n, en⟩ : ∃ n, la.length = n := ⟨_, rfl⟩
  have en2 : lb.length = n := by
    have := congrArg List.length hc
    simp at this
    rw [← this]; exact en
  obtain ⟨pa, ca, rfl⟩ := ha.len en
  obtain ⟨pb, cb, rfl⟩ := hb.len en2
  rw [en] at hm
  have HA := Lib.hid ha
  have HB := Lib.hid hb
  have EN := Lib.hid en
  have EN2 := Lib.hid en2
  have HC := Lib.hid hc
  clear ha hb en en2 hc
  go_enter Try.func33, Try.ntmps33
  go_wp2_with fail
  go_loopw [5, 13] (fun _ vi wr => ∃ k : Nat, vi = .int .i64 (k : Int) ∧ k ≤ n ∧ Grows w wr) (fun _ vi _ => n - (intOf vi).toNat)
  case atStart => exact ⟨0, rfl, Nat.zero_le _, grows_refl _⟩
  case round =>
    obtain ⟨k, rfl, hk, hgr⟩ := hrel
    have HG := Lib.hid hgr
    clear hgr
    by_cases hlt : k < n
    · have hk6 : k ≤ 1000000 := Nat.le_trans (Nat.le_of_lt hlt) (Nat.le_trans hm (by decide))
      have HNF := Lib.hid (nat_facts k hk6)
      have HWS := Lib.hid (wrap_succ hk6)
      have HKK := Lib.hid hlt
      obtain ⟨g, o, c1, he, hcap, hg, hat⟩ := HA.out.form EN.out (Nat.lt_of_le_of_lt (Nat.zero_le _) hlt)
      simp only [Value.slice.injEq, true_and] at he
      obtain ⟨rfl, rfl⟩ := he
      obtain ⟨g', o', c2, he, hcap', hg', hat'⟩ := HB.out.form EN2.out (Nat.lt_of_le_of_lt (Nat.zero_le _) hlt)
      simp only [Value.slice.injEq, true_and] at he
      obtain ⟨rfl, rfl⟩ := he
      have hka : k < la.length := by rw [EN.out]; exact hlt
      have hkb : k < lb.length := by rw [EN2.out]; exact hlt
      obtain ⟨q0, q1, q2, q3, q4⟩ := eat_cells hat k hka
      obtain ⟨r0, r1, r2, r3, r4⟩ := eat_cells hat' k hkb
      have hcx : (la[k]).core = (lb[k]).core := by
        have h1 : (cores la)[k]? = some (la[k]).core := by rw [List.getElem?_map, List.getElem?_eq_getElem hka]; rfl
        have h2 : (cores lb)[k]? = some (lb[k]).core := by rw [List.getElem?_map, List.getElem?_eq_getElem hkb]; rfl
        rw [HC.out, h2] at h1
        exact (Option.some.inj h1).symm
      have hxa := (HA.out.2 _ (List.getElem_mem hka)).grows HG.out
      have hxb := (HB.out.2 _ (List.getElem_mem hkb)).grows HG.out
      obtain ⟨x, ex⟩ : ∃ x, la[k] = x := ⟨_, rfl⟩
      obtain ⟨y, ey⟩ : ∃ x, lb[k] = x := ⟨_, rfl⟩
      rw [ex] at q0 q1 q2 q3 q4 hcx hxa
      rw [ey] at r0 r1 r2 r3 r4 hcx hxb
      have p0 := (HG.out.cell (p := ⟨g, o + k * 5, none⟩) hg).trans q0
      have p1 := (HG.out.cell (p := ⟨g, o + k * 5 + 1, none⟩) hg).trans q1
      have p2 := (HG.out.cell (p := ⟨g, o + k * 5 + 2, none⟩) hg).trans q2
      have p3 := (HG.out.cell (p := ⟨g, o + k * 5 + 3, none⟩) hg).trans q3
      have p4 := (HG.out.cell (p := ⟨g, o + k * 5 + 4, none⟩) hg).trans q4
      have s0 := (HG.out.cell (p := ⟨g', o' + k * 5, none⟩) hg').trans r0
      have s1 := (HG.out.cell (p := ⟨g', o' + k * 5 + 1, none⟩) hg').trans r1
      have s2 := (HG.out.cell (p := ⟨g', o' + k * 5 + 2, none⟩) hg').trans r2
      have s3 := (HG.out.cell (p := ⟨g', o' + k * 5 + 3, none⟩) hg').trans r3
      have s4 := (HG.out.cell (p := ⟨g', o' + k * 5 + 4, none⟩) hg').trans r4
      have hgw : g < wr.heap.size := Nat.lt_of_lt_of_le hg HG.out.size
      have hgw' : g' < wr.heap.size := Nat.lt_of_lt_of_le hg' HG.out.size
      have hsm := fun W (hW : Grows wr W) => rsame_any x y W (hxa.grows hW) (hxb.grows hW)
      rw [sameE_of (congrArg (·.1) hcx) (congrArg (·.2.1) hcx) (congrArg (·.2.2) hcx)] at hsm
      have HS := Lib.hid hsm
      have hkn : (k : Int) < (n : Int) := Int.ofNat_lt.2 hlt
      clear q0 q1 q2 q3 q4 r0 r1 r2 r3 r4 hat hat' hcx hxa hxb ex ey hsm hka hkb hk6 hk hm hg hg'
      obtain ⟨j1, j2, j3, j4, j6⟩ := HNF.out
      go_wp2_with fail
      refine wp_region_tail_drewN 8 (by kernel_rfl) (by kernel_rfl) (by kernel_rfl) (by kernel_rfl) ?_
      simp only [List.take_succ_cons, List.take_zero, List.drop_succ_cons, List.drop_zero]
      repeat (first | go_big_quiet_step ((fail)) | quiet_step ((fail)))
      refine wpQuiet_nil ?_
      intro _ hcw1
      obtain ⟨nq, hcw2⟩ := hcw1
      subst hcw2
      go_wp2_with fail
      refine (HS.out _ (bl_drewN (Below.refl _ _) _)).mono ?_
      rintro e w2 ⟨rfl, hg2⟩
      have HG2 := Lib.hid (grows_trans _ _ _ HG.out (grows_trans _ _ _ (bl_drewN (Below.refl _ _) _ : Below wr.heap.size wr _) hg2))
      clear hg2
      go_wp2_with fail
      go_roundw
      case rel => exact ⟨k + 1, by rw [HWS.out]; rfl, HKK.out, HG2.out⟩
      case measure => rw [HWS.out]; exact meas_succ HKK.out
    · obtain rfl : k = n := Nat.le_antisymm hk (Nat.le_of_not_lt hlt)
      clear hk hlt hm
      go_wp2_with fail
      go_ret
      exact ⟨rfl, HG.out⟩
end Go.Proofs.Ytkihhdoejpjbbaa
