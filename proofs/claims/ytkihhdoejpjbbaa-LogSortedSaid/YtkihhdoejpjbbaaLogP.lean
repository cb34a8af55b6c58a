/- The walk of LogSorted. -/
import Derived.Test.YtkihhdoejpjbbaaLogN
import Derived.Test.YtkihhdoejpjbbaaWideN
namespace Go.Proofs.Ytkihhdoejpjbbaa
open Go.RowKit Go.Sort
set_option maxHeartbeats 2000000
set_option maxRecDepth 100000

theorem logSorted_walk (v : Value) (l : List EW) (w : World) (h : EHas w v l) (hm : l.length ≤ 9223372036854775807) :
    Calls Try.prog 13 #[v] w (RetV w (.bool true)) := by
  have HC := Lib.hid (cut_any v l w h hm)
  have HW := Lib.hid (fun W => logWorks_any W)
  clear h hm
  go_enter Try.func13, Try.ntmps13
  go_wp2_with fail
  refine (HC.out).mono ?_
  rintro e w1 ⟨vc, rfl, hg1, lc, hoc, hbc, hcc⟩
  obtain ⟨n, en⟩ : ∃ n, lc.length = n := ⟨_, rfl⟩
  have hn40 : n ≤ 40 := by
    have h1 := congrArg List.length hcc
    have h2 := cutC_length (cores l)
    simp only [List.length_map] at h1
    omega
  obtain ⟨a, cap, rfl⟩ := (eown_has hoc hbc).len en
  have hsc : Short (cores lc) := by rw [hcc]; exact cutC_short _
  have HSC := Lib.hid hsc
  have G1 := Lib.hid hg1
  have OC := Lib.hid hoc
  have BC := Lib.hid hbc
  have EN := Lib.hid en
  have HROW : Hid (∀ k, (Value.slice a n cap).ownBlock = some k → k < w1.heap.size) := Lib.hid (fun k hk => (hoc.lt k hk).2)
  clear hg1 hoc hbc hcc en hsc
  go_wp2_with fail
  refine (lnew_any _).mono ?_
  rintro e w2 ⟨rfl, hg2, hl2⟩
  obtain ⟨b, eb⟩ : ∃ b, w1.heap.size = b := ⟨_, rfl⟩
  rw [eb] at hl2 ⊢
  have OC := Lib.hid (own_grows OC.out hg2)
  have BC := Lib.hid (BC.out.grows hg2)
  have L2 := Lib.hid hl2
  have HW0 : Hid (w.heap.size ≤ b) := Lib.hid (by rw [← eb]; exact G1.out.size)
  have B2 := Lib.hid (grows_trans _ _ _ G1.out hg2 : Below w.heap.size w w2)
  rw [eb] at HROW
  have HB2 : Hid (b ≤ w2.heap.size) := Lib.hid (by rw [← eb]; exact hg2.size)
  clear hg2 hl2 eb
  go_wp2_with fail
  go_loopw [4, 5, 11] (fun _ _ vi wr => ∃ (k : Nat) (vl : Value) (ll : List EW) (c : List EC), vi = .int .i64 (k : Int) ∧ k ≤ n ∧ c.length ≤ k ∧ LogAt wr b b vl ll ∧ cores ll = c ∧ sortedB c = true ∧ Short c ∧ EOwn wr w.heap.size (.slice a n cap) lc ∧ Bods wr lc ∧ Below w.heap.size w wr ∧ b ≤ wr.heap.size) (fun _ _ vi _ => n - (intOf vi).toNat)
  case atStart => exact ⟨0, _, _, _, rfl, Nat.zero_le _, Nat.le_refl _, L2.out, rfl, rfl, fun x hx => by simp at hx, OC.out, BC.out, B2.out, HB2.out⟩
  case round =>
    obtain ⟨k, vl, ll, c, rfl, hk, hck, hl, hcl0, hso, hsh, hoc, hbc, hB, hwb⟩ := hrel
    have L := Lib.hid hl
    have LC := Lib.hid hcl0
    have HSO := Lib.hid hso
    have HSH := Lib.hid hsh
    have OC := Lib.hid hoc
    have BC := Lib.hid hbc
    have BB := Lib.hid hB
    by_cases hlt : k < n
    · have hk6 : k ≤ 1000000 := Nat.le_trans (Nat.le_of_lt hlt) (Nat.le_trans hn40 (by decide))
      have HNF := Lib.hid (nat_facts k hk6)
      have HWS := Lib.hid (wrap_succ hk6)
      have HKK := Lib.hid hlt
      have hcl : ll.length ≤ 1000000 := by
        have h1 := congrArg List.length hcl0
        simp only [List.length_map] at h1
        omega
      obtain ⟨g, o, c', he, hcap, hg, hat⟩ := (eown_has hoc hbc).form EN.out (Nat.lt_of_le_of_lt (Nat.zero_le _) hlt)
      simp only [Value.slice.injEq, true_and] at he
      obtain ⟨rfl, rfl⟩ := he
      have hkl : k < lc.length := by rw [EN.out]; exact hlt
      obtain ⟨p0, p1, p2, p3, p4⟩ := eat_cells hat k hkl
      have hxm : lc[k] ∈ lc := List.getElem_mem _
      have hxs := HSC.out _ (List.mem_map_of_mem (f := EW.core) hxm)
      have hxb := hbc _ hxm
      obtain ⟨x, ex⟩ : ∃ x, lc[k] = x := ⟨_, rfl⟩
      rw [ex] at p0 p1 p2 p3 p4 hxs hxb
      have HXS := Lib.hid hxs
      have hxl : x.bl ≤ 1000000 := by
        have h1 := (brow_has hxb).1
        simp only at hxs
        rw [← h1]
        exact Nat.le_trans hxs (by decide)
      have hgb : Grows wr (wr.alloc (.cells #[.int .i64 x.a, .int .i64 x.k.t, .int .i64 x.k.f, .int .u32 x.k.s, x.bv] 56)) := bl_alloc (Below.refl _ _) _
      have hadd := ladd_any x _ (hl.grows hgb) (Nat.le_trans hwb hgb.size) hcl (brow_has (own_grows hxb hgb)) hxl
      unfold AddPost at hadd
      rw [hcl0] at hadd
      have HA := Lib.hid hadd
      have HX := Lib.hid (own_grows hxb hgb)
      have HCK := Lib.hid (Nat.succ_le_succ hck)
      have HGB := Lib.hid hgb
      have HBX := Lib.hid (heap_alloc_new wr (.cells #[.int .i64 x.a, .int .i64 x.k.t, .int .i64 x.k.f, .int .u32 x.k.s, x.bv] 56))
      have HAT := Lib.hid hat
      have hkn : (k : Int) < (n : Int) := Int.ofNat_lt.2 hlt
      clear hl hcl0 hso hsh hoc hbc hB hat hkl hxm hxs hxb ex hadd hck hcl hk6 hxl hk hgb
      obtain ⟨j1, j2, j3, j4, j6⟩ := HNF.out
      go_wp2_with fail
      refine (HA.out).mono ?_
      rintro e w3 ⟨rfl, vl3, ll3, hl3, hc3, hch3, ho3⟩
      have hlB := L.out.grows HGB.out
      have hlb := L.out.lt
      have hob : ∀ j, vl.ownBlock = some j → j < wr.heap.size := fun j hj => (L.out.own.lt j hj).2
      have hbx3 : w3.heap[wr.heap.size]? = some (.cells #[.int .i64 x.a, .int .i64 x.k.t, .int .i64 x.k.f, .int .u32 x.k.s, x.bv] 56) := by
        rw [hch3.block wr.heap.size (by simp) (fun hs => by
          rcases hs with hs | hs
          · rw [hs] at hlb; exact Nat.lt_irrefl _ hlb
          · exact Nat.lt_irrefl _ (hob _ hs))]
        exact HBX.out
      have HBX3 := Lib.hid hbx3
      have hbw : wr.heap.size < w3.heap.size := (Array.getElem?_eq_some_iff.1 hbx3).1
      have hvc : ∀ j, (Value.slice (some ⟨g, o, none⟩) n cap).ownBlock = some j → vl.ownBlock ≠ some j := fun j hj hj2 => Nat.lt_irrefl _ (Nat.lt_of_lt_of_le (HROW.out j hj) (L.out.own.lt j hj2).1)
      obtain ⟨hoc3, hbc3⟩ := ents_kept (own_grows OC.out HGB.out) (BC.out.grows HGB.out) hlB hch3 hvc
      have hB3 := hlB.below (w0 := w) (B := w.heap.size) (BB.out.trans ((HGB.out : Below _ _ _).mono BB.out.size)) HW0.out HW0.out (Nat.le_refl _) hch3
      have hx3 := brow_has (brow_chg HX.out hch3 hlB.noBytes)
      have hxx := fun W (hW : Grows w3 W) => lsame_any x x W (hx3.grows hW) (hx3.grows hW)
      rw [sameE_of rfl rfl rfl] at hxx
      have HXX := Lib.hid hxx
      have L3 := Lib.hid (And.intro hl3 hc3)
      have HSO3 := Lib.hid (addC_sorted HSO.out x.core)
      have HSH3 := Lib.hid (addC_short HSH.out (x := x.core) HXS.out)
      have OC3 := Lib.hid hoc3
      have BC3 := Lib.hid hbc3
      have B3 := Lib.hid hB3
      have HWB3 := Lib.hid (Nat.le_trans hwb (Nat.le_trans HGB.out.size hch3.size))
      have HX3 := Lib.hid hx3
      clear hl3 hc3 hch3 ho3 hlB hlb hob hbx3 hvc hoc3 hbc3 hB3 hx3 hxx p0 p1 p2 p3 p4 hwb
      cases k with
      | zero =>
        clear j1 j2 j3 j4 j6
        go_wp2_with fail
        refine WideN.wp_wide3 [.fix _ (.agg #[.int .i64 x.a, .int .i64 x.k.t, .int .i64 x.k.f, .int .u32 x.k.s, x.bv]), .fix _ (.agg #[.int .i64 x.a, .int .i64 x.k.t, .int .i64 x.k.f, .int .u32 x.k.s, x.bv]), .fix _ (.bool true), .fix _ (.bool false), .fix _ (.bool false), .fix _ (.int .i64 (0 : Int)), .fix _ (.bool false), .fix _ (.bool false), .fix _ undef, .fix _ undef, .fix _ undef, .fix _ undef, .fix _ undef, .fix _ undef, .fix _ undef, .fix _ undef, .fix _ undef, .fix _ undef, .fix _ undef, .fix _ undef, .fix _ undef, .fix _ undef, .fix _ undef, .fix _ (.bool false), .fix _ (.bool false)] ?_ (by kernel_rfl) (by kernel_rfl) rfl (fun vals => by simp [Act.over, dstsOf, overL]; rfl) ?_ ?_
        · refine ⟨?_, ?_, ?_, ?_, ?_, ?_, ?_, ?_, ?_, ?_, ?_, ?_, ?_, ?_, ?_, ?_, ?_, ?_, ?_, ?_, ?_, ?_, ?_, ?_, ?_, trivial⟩
          all_goals
            intro vals w' hE hn R hR
            simp [WideN.needsOf, Region.binds, dstAt, gOf, SG.fix] at hn hR
            have HR0 := Lib.hid hR
            try simp only [hn] at hR
            have HR := Lib.hid hR
            have HE := Lib.hid hE
            clear hR hE
          · obtain ⟨e0, -⟩ := cell_in ((HE.out.block _ hbw).trans HBX3.out) 0 rfl
            obtain ⟨e1, -⟩ := cell_in ((HE.out.block _ hbw).trans HBX3.out) 1 rfl
            obtain ⟨e2, -⟩ := cell_in ((HE.out.block _ hbw).trans HBX3.out) 2 rfl
            obtain ⟨e3, -⟩ := cell_in ((HE.out.block _ hbw).trans HBX3.out) 3 rfl
            obtain ⟨e4, -⟩ := cell_in ((HE.out.block _ hbw).trans HBX3.out) 4 rfl
            go_wp2_with fail
            exact HR.out _ _ rfl (grows_refl _)
          · obtain ⟨e0, -⟩ := cell_in ((HE.out.block _ hbw).trans HBX3.out) 0 rfl
            obtain ⟨e1, -⟩ := cell_in ((HE.out.block _ hbw).trans HBX3.out) 1 rfl
            obtain ⟨e2, -⟩ := cell_in ((HE.out.block _ hbw).trans HBX3.out) 2 rfl
            obtain ⟨e3, -⟩ := cell_in ((HE.out.block _ hbw).trans HBX3.out) 3 rfl
            obtain ⟨e4, -⟩ := cell_in ((HE.out.block _ hbw).trans HBX3.out) 4 rfl
            go_wp2_with fail
            exact HR.out _ _ rfl (grows_refl _)
          · go_wp2_with (go_at_call 45; refine (HXX.out _ HE.out).mono ?_; rintro e w9 ⟨rfl, hg9⟩)
            exact HR.out _ _ rfl hg9
          · go_wp2_with fail
            exact HR.out _ _ rfl (grows_refl _)
          · go_wp2_with fail
            exact HR.out _ _ rfl (grows_refl _)
          · go_wp2_with fail
            exact HR.out _ _ rfl (grows_refl _)
          · go_wp2_with fail
            exact HR.out _ _ rfl (grows_refl _)
          · go_wp2_with fail
            exact HR.out _ _ rfl (grows_refl _)
          · go_wp2_with fail
            exact HR.out _ _ rfl (grows_refl _)
          · go_wp2_with fail
            exact HR.out _ _ rfl (grows_refl _)
          · go_wp2_with fail
            exact HR.out _ _ rfl (grows_refl _)
          · go_wp2_with fail
            exact HR.out _ _ rfl (grows_refl _)
          · go_wp2_with fail
            exact HR.out _ _ rfl (grows_refl _)
          · go_wp2_with fail
            exact HR.out _ _ rfl (grows_refl _)
          · go_wp2_with fail
            exact HR.out _ _ rfl (grows_refl _)
          · go_wp2_with fail
            exact HR.out _ _ rfl (grows_refl _)
          · go_wp2_with fail
            exact HR.out _ _ rfl (grows_refl _)
          · go_wp2_with fail
            exact HR.out _ _ rfl (grows_refl _)
          · go_wp2_with fail
            exact HR.out _ _ rfl (grows_refl _)
          · go_wp2_with fail
            exact HR.out _ _ rfl (grows_refl _)
          · go_wp2_with fail
            exact HR.out _ _ rfl (grows_refl _)
          · go_wp2_with fail
            exact HR.out _ _ rfl (grows_refl _)
          · go_wp2_with fail
            exact HR.out _ _ rfl (grows_refl _)
          · go_wp2_with fail
            exact HR.out _ _ rfl (grows_refl _)
          · go_wp2_with fail
            exact HR.out _ _ rfl (grows_refl _)
        intro vals w9 hE hn
        have n43 := hn 24 43 rfl
        simp [gOf, SG.fix] at n43
        have G9 := Lib.hid hE
        clear hn hE
        simp only [n43]
        go_wp2_with fail
        go_roundw
        case rel => exact ⟨1, vl3, ll3, _, by first | rfl | (rw [HWS.out]; rfl), HKK.out, Nat.le_trans (addC_length _ _) HCK.out, L3.out.1.grows G9.out, L3.out.2, HSO3.out, HSH3.out, own_grows OC3.out G9.out, BC3.out.grows G9.out, B3.out.trans ((G9.out : Below _ _ _).mono B3.out.size), Nat.le_trans HWB3.out G9.out.size⟩
        case measure => first | exact meas_succ HKK.out | (rw [HWS.out]; exact meas_succ HKK.out)
      | succ m =>
        have hml : m < lc.length := by rw [EN.out]; exact Nat.lt_of_succ_lt hlt
        have hh3 := eown_has OC3.out BC3.out
        obtain ⟨g', o', c', he, hcap', hgw, hat3⟩ := hh3.form EN.out (Nat.lt_of_le_of_lt (Nat.zero_le _) hlt)
        simp only [Value.slice.injEq, true_and, Option.some.injEq, Addr.mk.injEq, and_true] at he
        obtain ⟨⟨rfl, rfl⟩, rfl⟩ := he
        obtain ⟨p0, p1, p2, p3, p4⟩ := eat_cells hat3 m hml
        have hyb := hh3.2 _ (List.getElem_mem hml)
        obtain ⟨y, ey⟩ : ∃ y, lc[m] = y := ⟨_, rfl⟩
        rw [ey] at p0 p1 p2 p3 p4 hyb
        have HP := Lib.hid (And.intro p0 (And.intro p1 (And.intro p2 (And.intro p3 p4))))
        have hyx := fun W (hW : Grows w3 W) => lsame_any y x W (hyb.grows hW) (HX3.out.grows hW)
        have hryx := fun W (hW : Grows w3 W) => rsame_any y x W (hyb.grows hW) (HX3.out.grows hW)
        obtain ⟨s, es⟩ : ∃ s, sameE y x = s := ⟨_, rfl⟩
        rw [es] at hyx hryx
        have HYX := Lib.hid hyx
        have HRYX := Lib.hid hryx
        have hm6 : m ≤ 1000000 := Nat.le_trans (Nat.le_of_lt (Nat.lt_of_succ_lt hlt)) (Nat.le_trans hn40 (by decide))
        obtain ⟨i1, i2, i3, i4, i6⟩ := nat_facts m hm6
        have hmn : (m : Int) < (n : Int) := Int.ofNat_lt.2 (Nat.lt_of_succ_lt hlt)
        have HWS2 : Hid (wrap64 ((m : Int) + 1 + 1) = (m : Int) + 1 + 1) := Lib.hid HWS.out
        have HME : Hid (n - ((m : Int) + 1 + 1).toNat < n - ((m : Int) + 1).toNat) := Lib.hid (meas_succ (k := m + 1) HKK.out)
        clear hh3 hat3 p0 p1 p2 p3 p4 hyb hyx hryx es ey hml hm6 j1 j2 j3 j4 j6 hn40
        go_wp2_with fail
        refine WideN.wp_wide3 [.fix _ (.agg #[.int .i64 x.a, .int .i64 x.k.t, .int .i64 x.k.f, .int .u32 x.k.s, x.bv]), .fix _ (.agg #[.int .i64 x.a, .int .i64 x.k.t, .int .i64 x.k.f, .int .u32 x.k.s, x.bv]), .fix _ (.bool true), .fix _ (.bool false), .fix _ (.bool false), .fix _ (.int .i64 ((m : Int) + 1)), .fix _ (.bool true), .fix _ (.bool true), .fix _ (.slice (some ⟨g, o, none⟩) n cap), .fix _ (.int .i64 ((m : Int) + 1)), .fix _ (.int .i64 (m : Int)), .fix _ (.pointer (some ⟨g, o + m * 5, none⟩)), .fix _ (.agg #[.int .i64 y.a, .int .i64 y.k.t, .int .i64 y.k.f, .int .u32 y.k.s, y.bv]), .fix _ (.agg #[.int .i64 x.a, .int .i64 x.k.t, .int .i64 x.k.f, .int .u32 x.k.s, x.bv]), .fix _ (.bool s), .fix _ (.slice (some ⟨g, o, none⟩) n cap), .fix _ (.int .i64 ((m : Int) + 1)), .fix _ (.int .i64 (m : Int)), .fix _ (.pointer (some ⟨g, o + m * 5, none⟩)), .fix _ (.agg #[.int .i64 y.a, .int .i64 y.k.t, .int .i64 y.k.f, .int .u32 y.k.s, y.bv]), .fix _ (.agg #[.int .i64 x.a, .int .i64 x.k.t, .int .i64 x.k.f, .int .u32 x.k.s, x.bv]), .fix _ (.bool s), .fix _ (.bool false), .fix _ (.bool false), .fix _ (.bool false)] ?_ (by kernel_rfl) (by kernel_rfl) rfl (fun vals => by simp [Act.over, dstsOf, overL]; rfl) ?_ ?_
        · refine ⟨?_, ?_, ?_, ?_, ?_, ?_, ?_, ?_, ?_, ?_, ?_, ?_, ?_, ?_, ?_, ?_, ?_, ?_, ?_, ?_, ?_, ?_, ?_, ?_, ?_, trivial⟩
          all_goals
            intro vals w' hE hn R hR
            simp [WideN.needsOf, Region.binds, dstAt, gOf, SG.fix] at hn hR
            have HR0 := Lib.hid hR
            try simp only [hn] at hR
            have HR := Lib.hid hR
            have HE := Lib.hid hE
            clear hR hE
          · obtain ⟨e0, -⟩ := cell_in ((HE.out.block _ hbw).trans HBX3.out) 0 rfl
            obtain ⟨e1, -⟩ := cell_in ((HE.out.block _ hbw).trans HBX3.out) 1 rfl
            obtain ⟨e2, -⟩ := cell_in ((HE.out.block _ hbw).trans HBX3.out) 2 rfl
            obtain ⟨e3, -⟩ := cell_in ((HE.out.block _ hbw).trans HBX3.out) 3 rfl
            obtain ⟨e4, -⟩ := cell_in ((HE.out.block _ hbw).trans HBX3.out) 4 rfl
            go_wp2_with fail
            exact HR.out _ _ (by first | rfl | rw [i4]) (grows_refl _)
          · obtain ⟨e0, -⟩ := cell_in ((HE.out.block _ hbw).trans HBX3.out) 0 rfl
            obtain ⟨e1, -⟩ := cell_in ((HE.out.block _ hbw).trans HBX3.out) 1 rfl
            obtain ⟨e2, -⟩ := cell_in ((HE.out.block _ hbw).trans HBX3.out) 2 rfl
            obtain ⟨e3, -⟩ := cell_in ((HE.out.block _ hbw).trans HBX3.out) 3 rfl
            obtain ⟨e4, -⟩ := cell_in ((HE.out.block _ hbw).trans HBX3.out) 4 rfl
            go_wp2_with fail
            exact HR.out _ _ (by first | rfl | rw [i4]) (grows_refl _)
          · go_wp2_with (go_at_call 45; refine (HXX.out _ HE.out).mono ?_; rintro e w9 ⟨rfl, hg9⟩)
            exact HR.out _ _ rfl hg9
          · go_wp2_with fail
            exact HR.out _ _ (by first | rfl | rw [i4]) (grows_refl _)
          · go_wp2_with fail
            exact HR.out _ _ (by first | rfl | rw [i4]) (grows_refl _)
          · go_wp2_with fail
            exact HR.out _ _ (by first | rfl | rw [i4]) (grows_refl _)
          · go_wp2_with fail
            exact HR.out _ _ (by first | rfl | rw [i4]) (grows_refl _)
          · go_wp2_with fail
            exact HR.out _ _ (by first | rfl | rw [i4]) (grows_refl _)
          · go_wp2_with fail
            exact HR.out _ _ (by first | rfl | rw [i4]) (grows_refl _)
          · go_wp2_with fail
            exact HR.out _ _ (by first | rfl | rw [i4]) (grows_refl _)
          · go_wp2_with fail
            exact HR.out _ _ (by first | rfl | rw [i4]) (grows_refl _)
          · go_wp2_with fail
            exact HR.out _ _ (by first | rfl | rw [i4]) (grows_refl _)
          · have p0 := (HE.out.cell (p := ⟨g, o + m * 5, none⟩) hgw).trans HP.out.1
            have p1 := (HE.out.cell (p := ⟨g, o + m * 5 + 1, none⟩) hgw).trans HP.out.2.1
            have p2 := (HE.out.cell (p := ⟨g, o + m * 5 + 2, none⟩) hgw).trans HP.out.2.2.1
            have p3 := (HE.out.cell (p := ⟨g, o + m * 5 + 3, none⟩) hgw).trans HP.out.2.2.2.1
            have p4 := (HE.out.cell (p := ⟨g, o + m * 5 + 4, none⟩) hgw).trans HP.out.2.2.2.2
            go_wp2_with fail
            exact HR.out _ _ (by first | rfl | rw [i4]) (grows_refl _)
          · obtain ⟨e0, -⟩ := cell_in ((HE.out.block _ hbw).trans HBX3.out) 0 rfl
            obtain ⟨e1, -⟩ := cell_in ((HE.out.block _ hbw).trans HBX3.out) 1 rfl
            obtain ⟨e2, -⟩ := cell_in ((HE.out.block _ hbw).trans HBX3.out) 2 rfl
            obtain ⟨e3, -⟩ := cell_in ((HE.out.block _ hbw).trans HBX3.out) 3 rfl
            obtain ⟨e4, -⟩ := cell_in ((HE.out.block _ hbw).trans HBX3.out) 4 rfl
            go_wp2_with fail
            exact HR.out _ _ (by first | rfl | rw [i4]) (grows_refl _)
          · go_wp2_with (go_at_call 45; refine (HYX.out _ HE.out).mono ?_; rintro e w9 ⟨rfl, hg9⟩)
            exact HR.out _ _ rfl hg9
          · go_wp2_with fail
            exact HR.out _ _ (by first | rfl | rw [i4]) (grows_refl _)
          · go_wp2_with fail
            exact HR.out _ _ (by first | rfl | rw [i4]) (grows_refl _)
          · go_wp2_with fail
            exact HR.out _ _ (by first | rfl | rw [i4]) (grows_refl _)
          · go_wp2_with fail
            exact HR.out _ _ (by first | rfl | rw [i4]) (grows_refl _)
          · have p0 := (HE.out.cell (p := ⟨g, o + m * 5, none⟩) hgw).trans HP.out.1
            have p1 := (HE.out.cell (p := ⟨g, o + m * 5 + 1, none⟩) hgw).trans HP.out.2.1
            have p2 := (HE.out.cell (p := ⟨g, o + m * 5 + 2, none⟩) hgw).trans HP.out.2.2.1
            have p3 := (HE.out.cell (p := ⟨g, o + m * 5 + 3, none⟩) hgw).trans HP.out.2.2.2.1
            have p4 := (HE.out.cell (p := ⟨g, o + m * 5 + 4, none⟩) hgw).trans HP.out.2.2.2.2
            go_wp2_with fail
            exact HR.out _ _ (by first | rfl | rw [i4]) (grows_refl _)
          · obtain ⟨e0, -⟩ := cell_in ((HE.out.block _ hbw).trans HBX3.out) 0 rfl
            obtain ⟨e1, -⟩ := cell_in ((HE.out.block _ hbw).trans HBX3.out) 1 rfl
            obtain ⟨e2, -⟩ := cell_in ((HE.out.block _ hbw).trans HBX3.out) 2 rfl
            obtain ⟨e3, -⟩ := cell_in ((HE.out.block _ hbw).trans HBX3.out) 3 rfl
            obtain ⟨e4, -⟩ := cell_in ((HE.out.block _ hbw).trans HBX3.out) 4 rfl
            go_wp2_with fail
            exact HR.out _ _ (by first | rfl | rw [i4]) (grows_refl _)
          · go_wp2_with (go_at_call 41; refine (HRYX.out _ HE.out).mono ?_; rintro e w9 ⟨rfl, hg9⟩)
            exact HR.out _ _ rfl hg9
          · go_wp2_with fail
            exact HR.out _ _ (by first | rfl | rw [i4]) (grows_refl _)
          · go_wp2_with fail
            exact HR.out _ _ (by first | rfl | rw [i4]) (grows_refl _)
          · go_wp2_with fail
            exact HR.out _ _ (by first | rfl | rw [i4]) (grows_refl _)
        intro vals w9 hE hn
        have n43 := hn 24 43 rfl
        simp [gOf, SG.fix] at n43
        have G9 := Lib.hid hE
        clear hn hE
        simp only [n43]
        go_wp2_with fail
        go_roundw
        case rel => exact ⟨m + 1 + 1, vl3, ll3, _, by first | (rw [HWS.out]; rfl) | (rw [HWS2.out]; rfl), HKK.out, Nat.le_trans (addC_length _ _) HCK.out, L3.out.1.grows G9.out, L3.out.2, HSO3.out, HSH3.out, own_grows OC3.out G9.out, BC3.out.grows G9.out, B3.out.trans ((G9.out : Below _ _ _).mono B3.out.size), Nat.le_trans HWB3.out G9.out.size⟩
        case measure => first | (rw [HWS.out]; exact meas_succ HKK.out) | (rw [HWS2.out]; exact HME.out)
    · obtain rfl : k = n := Nat.le_antisymm hk (Nat.le_of_not_lt hlt)
      have hk5 : k ≤ 100000 := Nat.le_trans hn40 (by decide)
      have hlen : ll.length ≤ 100000 := by
        have h1 := congrArg List.length hcl0
        simp only [List.length_map] at h1
        rw [h1]
        exact Nat.le_trans hck hk5
      have hls := lsorted_any _ lc wr (eown_has hoc hbc) (by rw [EN.out]; exact hk5)
      have hrs := fun W (hW : Grows wr W) => rsorted_any _ lc W ((eown_has hoc hbc).grows hW) (by rw [EN.out]; exact hk5)
      have hsi := fun W (hW : Grows wr W) => since_any W (hl.grows hW) hlen (by rw [hcl0]; exact hsh) 0 0 rfl
      rw [hcl0] at hsi
      obtain ⟨s, es⟩ : ∃ s, sortedB (cores lc) = s := ⟨_, rfl⟩
      rw [es] at hls hrs
      have HLS := Lib.hid hls
      have HRS := Lib.hid hrs
      have HSI := Lib.hid hsi
      have HCK := Lib.hid (Nat.le_trans hck hk5)
      clear hl hcl0 hso hsh hoc hbc hB hls hrs hsi es hlen hk5 hck hk hlt hn40
      go_wp2_with fail
      refine (HLS.out).mono ?_
      rintro e w5 ⟨rfl, hg5⟩
      have G5 := Lib.hid hg5
      clear hg5
      go_wp2_with fail
      refine (HRS.out _ G5.out).mono ?_
      rintro e w6 ⟨rfl, hg6⟩
      have G6 := Lib.hid (grows_trans _ _ _ G5.out hg6)
      clear hg6
      have hss : (s == s) = true := by simp
      go_wp2_with fail
      refine (HSI.out _ G6.out).mono ?_
      rintro e w7 ⟨v7, rfl, hg7, l7, ho7, hb7, hc7⟩
      have hrs7 := rsorted_any v7 l7 w7 (eown_has ho7 hb7) (by have h1 := congrArg List.length hc7; simp at h1; rw [h1]; exact HCK.out)
      rw [hc7, List.drop_zero, HSO.out] at hrs7
      have HR7 := Lib.hid hrs7
      have G7 := Lib.hid (grows_trans _ _ _ G6.out hg7)
      clear hg7 ho7 hb7 hc7 hrs7
      go_wp2_with fail
      refine (HR7.out).mono ?_
      rintro e w8 ⟨rfl, hg8⟩
      have G8 := Lib.hid (grows_trans _ _ _ G7.out hg8)
      clear hg8
      go_wp2_with fail
      refine (HW.out _).mono ?_
      rintro e w9 ⟨rfl, hg9⟩
      have G9 := Lib.hid (grows_trans _ _ _ G8.out hg9)
      clear hg9
      go_wp2_with fail
      go_ret
      exact ⟨rfl, BB.out.trans ((G9.out : Below _ _ _).mono BB.out.size)⟩
end Go.Proofs.Ytkihhdoejpjbbaa
