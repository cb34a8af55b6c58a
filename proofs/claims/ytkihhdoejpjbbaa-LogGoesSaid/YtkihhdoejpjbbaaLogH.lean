/- The law's Cut: entries few and short, copied. -/
import Derived.Test.YtkihhdoejpjbbaaLogG

namespace Go.Proofs.Ytkihhdoejpjbbaa
open Go.RowKit Go.Sort
set_option maxHeartbeats 2000000
set_option maxRecDepth 100000

theorem wrap_big {k : Nat} (h : k < 9223372036854775807) : wrap64 ((k : Int) + 1) = (k : Int) + 1 := by unfold wrap64; omega
def cutC (c : List EC) : List EC := (c.take 40).map fun x => (x.1, x.2.1, x.2.2.take 60)
theorem cutC_take (c : List EC) (k : Nat) (x : EC) (hx : c[k]? = some x) : cutC (c.take (k + 1)) = if k < 40 then cutC (c.take k) ++ [(x.1, x.2.1, x.2.2.take 60)] else cutC (c.take k) := by
  obtain ⟨hk, rfl⟩ := List.getElem?_eq_some_iff.1 hx
  unfold cutC
  rw [List.take_take, List.take_take]
  by_cases h : k < 40
  · rw [if_pos h, show min 40 (k + 1) = k + 1 by omega, show min 40 k = k by omega, List.take_succ_eq_append_getElem hk, List.map_append]
    rfl
  · rw [if_neg h, show min 40 (k + 1) = 40 by omega, show min 40 k = 40 by omega]
theorem cutC_length (c : List EC) : (cutC c).length ≤ 40 := by simp [cutC]; omega
theorem cutC_short (c : List EC) : Short (cutC c) := by
  intro x hx
  obtain ⟨y, hy, rfl⟩ := List.mem_map.1 hx
  simp
  omega

theorem cutB_any (v : Value) (l : List EW) (w : World) (h : EHas w v l) (hm : l.length ≤ 9223372036854775807) :
    Calls Try.prog 30 #[v] w (fun e w' => ∃ v', e = .returned v' ∧ Grows w w' ∧ EListB w' w.heap.size v' (cutC (cores l))) := by
  obtain ⟨i0, hi0, hz0, hz1, hz2⟩ := info_parts Try.infoEnt
  obtain ⟨u0, hu0, hy0, hy1, hy2⟩ := info_parts Try.infoU8
  obtain ⟨n, en⟩ : ∃ n, l.length = n := ⟨_, rfl⟩
  obtain ⟨a, cap, rfl⟩ := h.len en
  have HH := Lib.hid h
  have EN := Lib.hid en
  rw [en] at hm
  have HM := Lib.hid hm
  clear h en hm
  go_enter Try.func30, Try.ntmps30
  go_wp2_with fail
  go_loopw [3, 4, 5, 8] (fun vo _ _ vi wr => ∃ k : Nat, vi = .int .i64 (k : Int) ∧ k ≤ n ∧ Grows w wr ∧ ∃ l2, EOwn wr w.heap.size vo l2 ∧ BodsB wr w.heap.size l2 ∧ cores l2 = cutC ((cores l).take k)) (fun _ _ _ vi _ => n - (intOf vi).toNat)
  case atStart => exact ⟨0, rfl, Nat.zero_le _, grows_refl _, [], World.ownsRow_nil _ _ _ _, fun x hx => by simp at hx, rfl⟩
  case round =>
    obtain ⟨k, rfl, hk, hgr, l2, hown, hbod, hcor⟩ := hrel
    have HG := Lib.hid hgr
    have HO := Lib.hid hown
    have HB := Lib.hid hbod
    have HC := Lib.hid hcor
    clear hgr hown hbod hcor
    by_cases hlt : k < n
    · have HWS := Lib.hid (wrap_big (Nat.lt_of_lt_of_le hlt HM.out))
      have HKK := Lib.hid hlt
      have hl2 : l2.length ≤ 40 := by
        have h1 := congrArg List.length HC.out
        have h2 := cutC_length ((cores l).take k)
        simp only [List.length_map] at h1
        omega
      have HL2 := Lib.hid hl2
      obtain ⟨g, o, c', he, hcap, hg, hat⟩ := HH.out.form EN.out (Nat.lt_of_le_of_lt (Nat.zero_le _) hlt)
      simp only [Value.slice.injEq, true_and] at he
      obtain ⟨rfl, rfl⟩ := he
      have hkl : k < l.length := by rw [EN.out]; exact hlt
      obtain ⟨q0, q1, q2, q3, q4⟩ := eat_cells hat k hkl
      have hxc : (cores l)[k]? = some (l[k]).core := by rw [List.getElem?_map, List.getElem?_eq_getElem hkl]; rfl
      have hbx := (HH.out.2 _ (List.getElem_mem hkl)).grows HG.out
      have hst := cutC_take (cores l) k _ hxc
      obtain ⟨x, ex⟩ : ∃ x, l[k] = x := ⟨_, rfl⟩
      rw [ex] at q0 q1 q2 q3 q4 hbx hst
      obtain ⟨xa, ⟨xt, xf, xs⟩, xba, xbl, xbc, xb⟩ := x
      simp only [EW.core] at q0 q1 q2 q3 q4 hbx hst
      have p0 := (HG.out.cell (p := ⟨g, o + k * 5, none⟩) hg).trans q0
      have p1 := (HG.out.cell (p := ⟨g, o + k * 5 + 1, none⟩) hg).trans q1
      have p2 := (HG.out.cell (p := ⟨g, o + k * 5 + 2, none⟩) hg).trans q2
      have p3 := (HG.out.cell (p := ⟨g, o + k * 5 + 3, none⟩) hg).trans q3
      have p4 := (HG.out.cell (p := ⟨g, o + k * 5 + 4, none⟩) hg).trans q4
      have hgw : g < wr.heap.size := Nat.lt_of_lt_of_le hg HG.out.size
      have hws := HG.out.size
      have hkn : (k : Int) < (n : Int) := Int.ofNat_lt.2 hlt
      have hk0 : (0 : Int) ≤ (k : Int) := Int.natCast_nonneg k
      clear hat q0 q1 q2 q3 q4 ex hxc hkl hl2 hk
      by_cases h40 : k < 40
      · rw [if_pos h40] at hst
        have HST := Lib.hid hst
        have HBX := Lib.hid hbx
        clear hst hbx
        cases xba with
        | none =>
          obtain ⟨hbl, hbh⟩ := HBX.out
          have hx0 : xbl = 0 := by
            rcases hbh with h0 | ⟨_, _, h1, _⟩
            · exact h0
            · cases h1
          subst hx0
          obtain rfl : xb = [] := List.eq_nil_of_length_eq_zero hbl
          clear hbl hbh
          have hl40 : l2.length ≤ 40 := HL2.out
          go_wp2_with (at_builtin; refine wpList_append_own _ rfl _ _ 47 rfl w.heap.size 56 i0 _ 5 56 Try.underlying47 hi0 hz0 hz1 hz2 rfl (by decide) _ l2.length (evs l2) rfl ?_ ⟨wr.heap.size + 1 + 1, 0, none⟩ 1 1 [.int .i64 xa, .int .i64 xt, .int .i64 xf, .int .u32 xs, .slice (some ⟨wr.heap.size + 1, 0, none⟩) 0 0] rfl rfl ?_ ?_ ?_ ?_ ?_ ?_)
          · exact ((HO.out.alloc _).alloc _).alloc _
          · exact World.news_of_block (cs := #[.int .i64 xa, .int .i64 xt, .int .i64 xf, .int .u32 xs, .slice (some ⟨wr.heap.size + 1, 0, none⟩) 0 0]) (t := 56) (by have := heap_alloc_new ((wr.alloc (.cells #[.int .i64 xa, .int .i64 xt, .int .i64 xf, .int .u32 xs, .slice (some ⟨wr.heap.size + 1, 0, none⟩) 0 0] 56)).alloc (.cells #[] 5)) (.cells #[.int .i64 xa, .int .i64 xt, .int .i64 xf, .int .u32 xs, .slice (some ⟨wr.heap.size + 1, 0, none⟩) 0 0] 56); simpa using this)
          · exact ev_one ⟨xa, ⟨xt, xf, xs⟩, some ⟨wr.heap.size + 1, 0, none⟩, 0, 0, []⟩
          · unfold maxLen; omega
          · omega
          · simp; omega
          intro v9 w4 hown4 hgrow4 _
          have gN : Grows wr ((wr.alloc (.cells #[.int .i64 xa, .int .i64 xt, .int .i64 xf, .int .u32 xs, .slice (some ⟨wr.heap.size + 1, 0, none⟩) 0 0] 56)).alloc (.cells #[] 5)) := bl_alloc (bl_alloc (Below.refl _ _) _) _
          have hg4 : Grows w w4 := grows_of_grownBy (bl_alloc (grows_trans _ _ _ HG.out gN) _) hgrow4 (fun kk hkk => (HO.out.lt kk hkk).1)
          have hch4 : Chg (fun k => u3.ownBlock = some k) ((wr.alloc (.cells #[.int .i64 xa, .int .i64 xt, .int .i64 xf, .int .u32 xs, .slice (some ⟨wr.heap.size + 1, 0, none⟩) 0 0] 56)).alloc (.cells #[] 5)) w4 := (Chg.alloc (Chg.refl _ _) _).trans (Chg.ofRow hgrow4)
          have hnb4 : NoBytes ((wr.alloc (.cells #[.int .i64 xa, .int .i64 xt, .int .i64 xf, .int .u32 xs, .slice (some ⟨wr.heap.size + 1, 0, none⟩) 0 0] 56)).alloc (.cells #[] 5)) (fun k => u3.ownBlock = some k) := own_noBytes ((HO.out.alloc _).alloc _)
          have hR : BRow ((wr.alloc (.cells #[.int .i64 xa, .int .i64 xt, .int .i64 xf, .int .u32 xs, .slice (some ⟨wr.heap.size + 1, 0, none⟩) 0 0] 56)).alloc (.cells #[] 5)) w.heap.size (.slice (some ⟨wr.heap.size + 1, 0, none⟩) 0 0) [] := by
            have := World.ownsRow_lit (wr.alloc (.cells #[.int .i64 xa, .int .i64 xt, .int .i64 xf, .int .u32 xs, .slice (some ⟨wr.heap.size + 1, 0, none⟩) 0 0] 56)) (e := 5) (base := w.heap.size) (size := 1) #[] 0 (by simp; omega) (by decide) rfl
            have h9 : World.ownsRow ((wr.alloc (.cells #[.int .i64 xa, .int .i64 xt, .int .i64 xf, .int .u32 xs, .slice (some ⟨wr.heap.size + 1, 0, none⟩) 0 0] 56)).alloc (.cells #[] 5)) w.heap.size 5 1 (.slice (some ⟨wr.heap.size + 1, 0, none⟩) 0 0) 0 [] := by simpa using this
            exact h9
          have hl4 : ∃ l3, EOwn w4 w.heap.size v9 l3 ∧ BodsB w4 w.heap.size l3 ∧ cores l3 = cutC ((cores l).take (k + 1)) := by
            refine ⟨l2 ++ [⟨xa, ⟨xt, xf, xs⟩, some ⟨wr.heap.size + 1, 0, none⟩, 0, 0, []⟩], ?_, ?_, ?_⟩
            · show World.ownsRow _ _ _ _ _ _ _
              rw [List.length_append, evs, List.flatMap_append]
              simpa using hown4
            · intro z hz
              rw [List.mem_append] at hz
              rcases hz with hz | hz
              · exact brow_chg ((HB.out.grows gN) z hz) hch4 hnb4
              · simp at hz
                subst hz
                exact brow_chg hR hch4 hnb4
            · rw [HST.out, ← HC.out]
              simp
          have HL4 := Lib.hid hl4
          have HG4 := Lib.hid hg4
          clear hown4 hgrow4 hg4 hch4 hnb4 hl4 gN hR
          go_wp2_with fail
          go_roundw
          case rel => exact ⟨k + 1, by first | rfl | (rw [HWS.out]; rfl), HKK.out, HG4.out, HL4.out⟩
          case measure => first | exact meas_succ HKK.out | (rw [HWS.out]; exact meas_succ HKK.out)
        | some ad =>
          by_cases h60 : xbl ≤ 60
          · have h60i : (xbl : Int) ≤ 60 := by omega
            obtain ⟨hbl, hbh⟩ := HBX.out
            have hcc : xbl ≤ xbc := by
              rcases hbh with h0 | ⟨_, _, _, h1, _⟩
              · rw [h0]; exact Nat.zero_le _
              · exact h1
            have hcci : (xbl : Int) ≤ (xbc : Int) := Int.ofNat_le.2 hcc
            clear hbl hbh
            go_wp2_with (at_builtin; refine wpList_append_own _ rfl _ _ 54 rfl (wr.heap.size + 1) 5 u0 _ 1 1 Try.underlying54 hu0 hy0 hy1 hy2 rfl (by decide) _ 0 [] rfl ?_ ad xbl xbc (bsv (xb.take 60)) rfl ?_ ?_ ?_ ?_ ?_ ?_ ?_)
            · have := World.ownsRow_lit (wr.alloc (.cells #[.int .i64 xa, .int .i64 xt, .int .i64 xf, .int .u32 xs, .slice (some ad) xbl xbc] 56)) (e := 5) (base := wr.heap.size + 1) (size := 1) #[] 0 (by simp) (by decide) rfl
              have h9 : World.ownsRow ((wr.alloc (.cells #[.int .i64 xa, .int .i64 xt, .int .i64 xf, .int .u32 xs, .slice (some ad) xbl xbc] 56)).alloc (.cells #[] 5)) (wr.heap.size + 1) 5 1 (.slice (some ⟨wr.heap.size + 1, 0, none⟩) 0 0) 0 [] := by simpa using this
              exact h9
            · have h1 := HBX.out.1
              simp
              omega
            · intro j u hu
              obtain ⟨h1, h2⟩ := HBX.out
              have hj : j < (xb.take 60).length := by
                have := (List.getElem?_eq_some_iff.1 hu).1
                simpa using this
              have hj2 : j < xb.length := by rw [List.length_take] at hj; omega
              rcases h2 with h2 | ⟨gb, ob, h3, _, h4, h5⟩
              · omega
              · cases h3
                rw [addr_add]
                have := h5 j hj2
                rw [← hu]
                simp only [bsv, List.getElem?_map, List.getElem?_eq_getElem hj, Option.map_some, List.getElem_take]
                exact ((bl_alloc (bl_alloc (Below.refl _ _) _) _ : Below wr.heap.size wr _).cell (p := ⟨gb, ob + j, none⟩) h4).trans this
            · exact bsv_one _
            · unfold maxLen; omega
            · omega
            · simp
            intro v' w2 hown2 hgrow2 _
            have hbr0 : BRow w2 (wr.heap.size + 1) v' (xb.take 60) := by
              show World.ownsRow _ _ _ _ _ _ _
              have hlen : (xb.take 60).length = xbl := by have h1 := HBX.out.1; rw [List.length_take]; omega
              rw [hlen]
              simpa using hown2
            obtain ⟨ca, cl, cc, rfl, -⟩ := brow_form hbr0
            have HBR := Lib.hid (row_base hbr0 (Nat.le_succ_of_le hws))
            have hgr2 : Grows wr w2 := grows_of_grownBy (bl_alloc (bl_alloc (Below.refl _ _) _) _) hgrow2 (by rintro k hk; cases hk; exact Nat.le_succ _)
            have q0 : w2.heap[wr.heap.size]? = some (.cells #[.int .i64 xa, .int .i64 xt, .int .i64 xf, .int .u32 xs, .slice (some ad) xbl xbc] 56) := by
              rw [hgrow2.block wr.heap.size (by simp; omega) (by simp [Value.ownBlock])]
              exact (two_new wr _ _).1
            clear hown2 hgrow2 hbr0
            obtain ⟨a0, f0⟩ := cell_in q0 0 rfl
            obtain ⟨a1, f1⟩ := cell_in q0 1 rfl
            obtain ⟨a2, f2⟩ := cell_in q0 2 rfl
            obtain ⟨a3, f3⟩ := cell_in q0 3 rfl
            obtain ⟨a4, f4⟩ := cell_in q0 4 rfl
            have hbw : wr.heap.size < w2.heap.size := (Array.getElem?_eq_some_iff.1 q0).1
            have hch : Chg (fun k => k = wr.heap.size) w2 (w2.setCell ⟨wr.heap.size, 4, none⟩ (.slice ca cl cc)) := Chg.setCell (Chg.refl _ _) _ (.inr rfl)
            have hnb1 : NoBytes w2 (fun k => k = wr.heap.size) := by
              rintro k rfl cur hc
              rw [q0] at hc
              injection hc with hc
              injection hc with _ hc
              exact absurd hc (by decide)
            have hO3 : EOwn (w2.setCell ⟨wr.heap.size, 4, none⟩ (.slice ca cl cc)) w.heap.size u3 l2 := hch.own (own_grows HO.out hgr2) (fun k hk hkk => by have := (HO.out.lt k hk).2; rw [hkk] at this; exact Nat.lt_irrefl _ this)
            have hB3 := ((HB.out.grows hgr2).chg hch hnb1)
            have hR3 := brow_chg HBR.out hch hnb1
            have hG3 : Grows wr (w2.setCell ⟨wr.heap.size, 4, none⟩ (.slice ca cl cc)) := ((Chg.ofGrows hgr2).trans hch).toGrows (fun k hk hkk => by rw [hkk] at hk; exact Nat.lt_irrefl _ hk)
            have hl40 : l2.length ≤ 40 := HL2.out
            have hs3 : w.heap.size ≤ w2.heap.size := Nat.le_trans hws hgr2.size
            have HO3 := Lib.hid hO3
            have HB3 := Lib.hid hB3
            have HR3 := Lib.hid hR3
            have HG3 := Lib.hid hG3
            clear q0 hch hnb1 hO3 hB3 hR3 hG3 hgr2
            go_wp2_with (at_builtin; refine wpList_append_own _ rfl _ _ 47 rfl w.heap.size 56 i0 _ 5 56 Try.underlying47 hi0 hz0 hz1 hz2 rfl (by decide) _ l2.length (evs l2) rfl (HO3.out.alloc _) ⟨w2.heap.size, 0, none⟩ 1 1 [.int .i64 xa, .int .i64 xt, .int .i64 xf, .int .u32 xs, .slice ca cl cc] rfl rfl ?_ ?_ ?_ ?_ ?_ ?_)
            · exact World.news_of_block (cs := #[.int .i64 xa, .int .i64 xt, .int .i64 xf, .int .u32 xs, .slice ca cl cc]) (t := 56) (by have := heap_alloc_new (w2.setCell ⟨wr.heap.size, 4, none⟩ (.slice ca cl cc)) (.cells #[.int .i64 xa, .int .i64 xt, .int .i64 xf, .int .u32 xs, .slice ca cl cc] 56); simpa using this)
            · exact ev_one ⟨xa, ⟨xt, xf, xs⟩, ca, cl, cc, xb.take 60⟩
            · unfold maxLen; omega
            · omega
            · simp; omega
            intro v9 w4 hown4 hgrow4 _
            have hg4 : Grows w w4 := grows_of_grownBy (bl_alloc (grows_trans _ _ _ HG.out HG3.out) _) hgrow4 (fun kk hkk => (HO3.out.lt kk hkk).1)
            have hch4 : Chg (fun k => u3.ownBlock = some k) (w2.setCell ⟨wr.heap.size, 4, none⟩ (.slice ca cl cc)) w4 := (Chg.alloc (Chg.refl _ _) _).trans (Chg.ofRow hgrow4)
            have hnb4 : NoBytes (w2.setCell ⟨wr.heap.size, 4, none⟩ (.slice ca cl cc)) (fun k => u3.ownBlock = some k) := own_noBytes HO3.out
            have hl4 : ∃ l3, EOwn w4 w.heap.size v9 l3 ∧ BodsB w4 w.heap.size l3 ∧ cores l3 = cutC ((cores l).take (k + 1)) := by
              refine ⟨l2 ++ [⟨xa, ⟨xt, xf, xs⟩, ca, cl, cc, xb.take 60⟩], ?_, ?_, ?_⟩
              · show World.ownsRow _ _ _ _ _ _ _
                rw [List.length_append, evs, List.flatMap_append]
                simpa using hown4
              · intro z hz
                rw [List.mem_append] at hz
                rcases hz with hz | hz
                · exact brow_chg (HB3.out z hz) hch4 hnb4
                · simp at hz
                  subst hz
                  exact brow_chg HR3.out hch4 hnb4
              · rw [HST.out, ← HC.out]
                simp
            have HL4 := Lib.hid hl4
            have HG4 := Lib.hid hg4
            clear hown4 hgrow4 hg4 hch4 hnb4 hl4
            go_wp2_with fail
            go_roundw
            case rel => exact ⟨k + 1, by first | rfl | (rw [HWS.out]; rfl), HKK.out, HG4.out, HL4.out⟩
            case measure => first | exact meas_succ HKK.out | (rw [HWS.out]; exact meas_succ HKK.out)
          · have h60i : (60 : Int) < (xbl : Int) := by omega
            obtain ⟨hbl, hbh⟩ := HBX.out
            have hcc : xbl ≤ xbc := by
              rcases hbh with h0 | ⟨_, _, _, h1, _⟩
              · rw [h0]; exact Nat.zero_le _
              · exact h1
            have hcci : (xbl : Int) ≤ (xbc : Int) := Int.ofNat_le.2 hcc
            clear hbl hbh
            go_wp2_with (at_builtin; refine wpList_append_own _ rfl _ _ 54 rfl (wr.heap.size + 1) 5 u0 _ 1 1 Try.underlying54 hu0 hy0 hy1 hy2 rfl (by decide) _ 0 [] rfl ?_ ad 60 xbc (bsv (xb.take 60)) rfl ?_ ?_ ?_ ?_ ?_ ?_ ?_)
            · have := World.ownsRow_lit (wr.alloc (.cells #[.int .i64 xa, .int .i64 xt, .int .i64 xf, .int .u32 xs, .slice (some ad) xbl xbc] 56)) (e := 5) (base := wr.heap.size + 1) (size := 1) #[] 0 (by simp) (by decide) rfl
              have h9 : World.ownsRow ((wr.alloc (.cells #[.int .i64 xa, .int .i64 xt, .int .i64 xf, .int .u32 xs, .slice (some ad) xbl xbc] 56)).alloc (.cells #[] 5)) (wr.heap.size + 1) 5 1 (.slice (some ⟨wr.heap.size + 1, 0, none⟩) 0 0) 0 [] := by simpa using this
              exact h9
            · have h1 := HBX.out.1
              simp
              omega
            · intro j u hu
              obtain ⟨h1, h2⟩ := HBX.out
              have hj : j < (xb.take 60).length := by
                have := (List.getElem?_eq_some_iff.1 hu).1
                simpa using this
              have hj2 : j < xb.length := by rw [List.length_take] at hj; omega
              rcases h2 with h2 | ⟨gb, ob, h3, _, h4, h5⟩
              · omega
              · cases h3
                rw [addr_add]
                have := h5 j hj2
                rw [← hu]
                simp only [bsv, List.getElem?_map, List.getElem?_eq_getElem hj, Option.map_some, List.getElem_take]
                exact ((bl_alloc (bl_alloc (Below.refl _ _) _) _ : Below wr.heap.size wr _).cell (p := ⟨gb, ob + j, none⟩) h4).trans this
            · exact bsv_one _
            · unfold maxLen; omega
            · omega
            · simp
            intro v' w2 hown2 hgrow2 _
            have hbr0 : BRow w2 (wr.heap.size + 1) v' (xb.take 60) := by
              show World.ownsRow _ _ _ _ _ _ _
              have hlen : (xb.take 60).length = 60 := by have h1 := HBX.out.1; rw [List.length_take]; omega
              rw [hlen]
              simpa using hown2
            obtain ⟨ca, cl, cc, rfl, -⟩ := brow_form hbr0
            have HBR := Lib.hid (row_base hbr0 (Nat.le_succ_of_le hws))
            have hgr2 : Grows wr w2 := grows_of_grownBy (bl_alloc (bl_alloc (Below.refl _ _) _) _) hgrow2 (by rintro k hk; cases hk; exact Nat.le_succ _)
            have q0 : w2.heap[wr.heap.size]? = some (.cells #[.int .i64 xa, .int .i64 xt, .int .i64 xf, .int .u32 xs, .slice (some ad) xbl xbc] 56) := by
              rw [hgrow2.block wr.heap.size (by simp; omega) (by simp [Value.ownBlock])]
              exact (two_new wr _ _).1
            clear hown2 hgrow2 hbr0
            obtain ⟨a0, f0⟩ := cell_in q0 0 rfl
            obtain ⟨a1, f1⟩ := cell_in q0 1 rfl
            obtain ⟨a2, f2⟩ := cell_in q0 2 rfl
            obtain ⟨a3, f3⟩ := cell_in q0 3 rfl
            obtain ⟨a4, f4⟩ := cell_in q0 4 rfl
            have hbw : wr.heap.size < w2.heap.size := (Array.getElem?_eq_some_iff.1 q0).1
            have hch : Chg (fun k => k = wr.heap.size) w2 (w2.setCell ⟨wr.heap.size, 4, none⟩ (.slice ca cl cc)) := Chg.setCell (Chg.refl _ _) _ (.inr rfl)
            have hnb1 : NoBytes w2 (fun k => k = wr.heap.size) := by
              rintro k rfl cur hc
              rw [q0] at hc
              injection hc with hc
              injection hc with _ hc
              exact absurd hc (by decide)
            have hO3 : EOwn (w2.setCell ⟨wr.heap.size, 4, none⟩ (.slice ca cl cc)) w.heap.size u3 l2 := hch.own (own_grows HO.out hgr2) (fun k hk hkk => by have := (HO.out.lt k hk).2; rw [hkk] at this; exact Nat.lt_irrefl _ this)
            have hB3 := ((HB.out.grows hgr2).chg hch hnb1)
            have hR3 := brow_chg HBR.out hch hnb1
            have hG3 : Grows wr (w2.setCell ⟨wr.heap.size, 4, none⟩ (.slice ca cl cc)) := ((Chg.ofGrows hgr2).trans hch).toGrows (fun k hk hkk => by rw [hkk] at hk; exact Nat.lt_irrefl _ hk)
            have hl40 : l2.length ≤ 40 := HL2.out
            have hs3 : w.heap.size ≤ w2.heap.size := Nat.le_trans hws hgr2.size
            have HO3 := Lib.hid hO3
            have HB3 := Lib.hid hB3
            have HR3 := Lib.hid hR3
            have HG3 := Lib.hid hG3
            clear q0 hch hnb1 hO3 hB3 hR3 hG3 hgr2
            go_wp2_with (at_builtin; refine wpList_append_own _ rfl _ _ 47 rfl w.heap.size 56 i0 _ 5 56 Try.underlying47 hi0 hz0 hz1 hz2 rfl (by decide) _ l2.length (evs l2) rfl (HO3.out.alloc _) ⟨w2.heap.size, 0, none⟩ 1 1 [.int .i64 xa, .int .i64 xt, .int .i64 xf, .int .u32 xs, .slice ca cl cc] rfl rfl ?_ ?_ ?_ ?_ ?_ ?_)
            · exact World.news_of_block (cs := #[.int .i64 xa, .int .i64 xt, .int .i64 xf, .int .u32 xs, .slice ca cl cc]) (t := 56) (by have := heap_alloc_new (w2.setCell ⟨wr.heap.size, 4, none⟩ (.slice ca cl cc)) (.cells #[.int .i64 xa, .int .i64 xt, .int .i64 xf, .int .u32 xs, .slice ca cl cc] 56); simpa using this)
            · exact ev_one ⟨xa, ⟨xt, xf, xs⟩, ca, cl, cc, xb.take 60⟩
            · unfold maxLen; omega
            · omega
            · simp; omega
            intro v9 w4 hown4 hgrow4 _
            have hg4 : Grows w w4 := grows_of_grownBy (bl_alloc (grows_trans _ _ _ HG.out HG3.out) _) hgrow4 (fun kk hkk => (HO3.out.lt kk hkk).1)
            have hch4 : Chg (fun k => u3.ownBlock = some k) (w2.setCell ⟨wr.heap.size, 4, none⟩ (.slice ca cl cc)) w4 := (Chg.alloc (Chg.refl _ _) _).trans (Chg.ofRow hgrow4)
            have hnb4 : NoBytes (w2.setCell ⟨wr.heap.size, 4, none⟩ (.slice ca cl cc)) (fun k => u3.ownBlock = some k) := own_noBytes HO3.out
            have hl4 : ∃ l3, EOwn w4 w.heap.size v9 l3 ∧ BodsB w4 w.heap.size l3 ∧ cores l3 = cutC ((cores l).take (k + 1)) := by
              refine ⟨l2 ++ [⟨xa, ⟨xt, xf, xs⟩, ca, cl, cc, xb.take 60⟩], ?_, ?_, ?_⟩
              · show World.ownsRow _ _ _ _ _ _ _
                rw [List.length_append, evs, List.flatMap_append]
                simpa using hown4
              · intro z hz
                rw [List.mem_append] at hz
                rcases hz with hz | hz
                · exact brow_chg (HB3.out z hz) hch4 hnb4
                · simp at hz
                  subst hz
                  exact brow_chg HR3.out hch4 hnb4
              · rw [HST.out, ← HC.out]
                simp
            have HL4 := Lib.hid hl4
            have HG4 := Lib.hid hg4
            clear hown4 hgrow4 hg4 hch4 hnb4 hl4
            go_wp2_with fail
            go_roundw
            case rel => exact ⟨k + 1, by first | rfl | (rw [HWS.out]; rfl), HKK.out, HG4.out, HL4.out⟩
            case measure => first | exact meas_succ HKK.out | (rw [HWS.out]; exact meas_succ HKK.out)
      · rw [if_neg h40] at hst
        have HST := Lib.hid (HC.out.trans hst.symm)
        clear hst hbx
        go_wp2_with fail
        go_roundw
        case rel =>
          have hg1 : Grows wr (wr.alloc (.cells #[.int .i64 xa, .int .i64 xt, .int .i64 xf, .int .u32 xs, .slice xba xbl xbc] 56)) := bl_alloc (Below.refl _ _) _
          exact ⟨k + 1, by rw [HWS.out]; rfl, HKK.out, grows_trans _ _ _ HG.out hg1, l2, own_grows HO.out hg1, HB.out.grows hg1, HST.out⟩
        case measure => first | exact meas_succ HKK.out | (rw [HWS.out]; exact meas_succ HKK.out)
    · obtain rfl : k = n := Nat.le_antisymm hk (Nat.le_of_not_lt hlt)
      have hall : (cores l).take k = cores l := List.take_of_length_le (by simp; rw [EN.out]; exact Nat.le_refl _)
      have hc2 := HC.out
      rw [hall] at hc2
      have HC2 := Lib.hid hc2
      clear hall hc2 hk hlt
      go_wp2_with fail
      go_ret
      exact ⟨_, rfl, HG.out, l2, HO.out, HB.out, HC2.out⟩
theorem cut_any (v : Value) (l : List EW) (w : World) (h : EHas w v l) (hm : l.length ≤ 9223372036854775807) :
    Calls Try.prog 30 #[v] w (fun e w' => ∃ v', e = .returned v' ∧ Grows w w' ∧ EList w' w.heap.size v' (cutC (cores l))) :=
  (cutB_any v l w h hm).mono fun _ _ ⟨v', h1, h2, h3⟩ => ⟨v', h1, h2, h3.low⟩
end Go.Proofs.Ytkihhdoejpjbbaa
