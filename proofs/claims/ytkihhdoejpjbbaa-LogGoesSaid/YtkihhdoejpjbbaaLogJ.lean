/- A log and the document's list side by side; the walk of LogBetween. -/
import Derived.Test.YtkihhdoejpjbbaaLogI
namespace Go.Proofs.Ytkihhdoejpjbbaa
open Go.RowKit Go.Sort
set_option maxHeartbeats 2000000
set_option maxRecDepth 100000

theorem ents_kept {w w' : World} {B b base : Nat} {vl vc : Value} {ll lc : List EW} (ho : EOwn w base vc lc) (hb : Bods w lc) (hl : LogAt w B b vl ll) (hc : Chg (LogS b vl) w w') (hsep : ∀ k, vc.ownBlock = some k → vl.ownBlock ≠ some k) : EOwn w' base vc lc ∧ Bods w' lc := by
  refine ⟨hc.own ho fun k hk hs => ?_, hb.chg hc hl.noBytes⟩
  rcases hs with rfl | hs
  · rcases ho.2 with ⟨h1, _⟩ | ⟨g, cap, cur, hv, _, hg, _⟩
    · rw [h1] at hk; simp [Value.ownBlock] at hk
    · rw [hv] at hk
      simp only [Value.ownBlock, Option.some.injEq] at hk
      subst hk
      rw [hl.ob] at hg
      injection hg with hg
      injection hg with _ hg
      exact absurd hg (by decide)
  · exact hsep k hk hs
theorem addC_length (c : List EC) (x : EC) : (addC c x).length ≤ c.length + 1 := by
  unfold addC
  split
  · simp
  · omega
theorem addC_short {c : List EC} (h : Short c) {x : EC} (hx : x.2.2.length ≤ 1000) : Short (addC c x) := by
  unfold addC
  split
  · intro y hy
    rw [List.mem_append] at hy
    rcases hy with hy | hy
    · exact h y hy
    · simp at hy; subst hy; exact hx
  · exact h
theorem cmpK_le {a b : KW} (h : cmpK a b ≤ 0) : a.t ≤ b.t := by
  refine Decidable.byContradiction fun hc => ?_
  have : cmpK a b = 1 := by unfold cmpK orI; rw [cmpI_gt (Int.not_le.1 hc)]; rfl
  omega
theorem addC_order {c : List EC} (h : InOrder c) (x : EC) : InOrder (addC c x) := by
  unfold addC
  split
  · rename_i hE
    unfold InOrder
    rw [List.pairwise_append]
    refine ⟨h, List.pairwise_singleton _ _, fun y hy z hz => ?_⟩
    simp at hz
    subst hz
    unfold addCE at hE
    cases hl : c.getLast? with
    | none =>
      rw [List.getLast?_eq_none_iff] at hl
      rw [hl] at hy
      simp at hy
    | some q =>
      rw [hl] at hE
      simp only at hE
      have hq : cmpK q.2.1 z.2.1 ≤ 0 := by
        by_cases h0 : cmpK q.2.1 z.2.1 = 0
        · omega
        · rw [if_neg h0] at hE
          by_cases h1 : 0 < cmpK q.2.1 z.2.1
          · rw [if_pos h1] at hE; cases hE
          · omega
      have h1 := cmpK_le hq
      have h2 : y.2.1.t ≤ q.2.1.t := by
        rw [List.getLast?_eq_getElem?] at hl
        obtain ⟨hlt, hlq⟩ := List.getElem?_eq_some_iff.1 hl
        obtain ⟨i, hi, rfl⟩ := List.mem_iff_getElem.1 hy
        rcases Nat.lt_or_ge i (c.length - 1) with hi2 | hi2
        · have := (List.pairwise_iff_getElem.1 h) i (c.length - 1) hi hlt hi2
          rw [hlq] at this
          exact this
        · have : i = c.length - 1 := by omega
          subst this
          rw [hlq]
          exact Int.le_refl _
      exact Int.le_trans h2 h1
  · exact h

/-- A log and the document's list have the same entries. -/
structure Side (w : World) (B b : Nat) (vl : Value) (ll : List EW) (vw : Value) (c : List EC) : Prop where
  log : LogAt w B b vl ll
  eq : cores ll = c
  lst : RList w vw c
  sep : ∀ k, vw.ownBlock = some k → vl.ownBlock ≠ some k
  ord : InOrder c
  sht : Short c
theorem RList.own_lt {w : World} {v : Value} {c : List EC} (h : RList w v c) {k : Nat} (hk : v.ownBlock = some k) : k < w.heap.size := by
  obtain ⟨⟨l, ho, _⟩, _⟩ := h
  exact (ho.lt k hk).2
theorem RList.add {w w' : World} {B b : Nat} {vl vw : Value} {ll : List EW} {c : List EC} (h : RList w vw c) (hl : LogAt w B b vl ll) (hc : Chg (LogS b vl) w w') (hsep : ∀ k, vw.ownBlock = some k → vl.ownBlock ≠ some k) : RList w' vw c := by
  obtain ⟨⟨l, h1, h2, h3⟩, h4⟩ := h
  obtain ⟨h5, h6⟩ := ents_kept h1 h2 hl hc hsep
  exact ⟨⟨l, h5, h6, h3⟩, h4⟩
theorem Side.next {w w2 w3 : World} {B b : Nat} {vl vw vl2 vw2 : Value} {ll ll2 : List EW} {c : List EC} {x : EC} (h : Side w B b vl ll vw c) (hx : x.2.2.length ≤ 1000)
    (hl2 : LogAt w2 B b vl2 ll2) (he2 : cores ll2 = addC c x) (hc2 : Chg (LogS b vl) w w2) (ho2 : ∀ k, vl2.ownBlock = some k → vl.ownBlock = some k ∨ w.heap.size ≤ k)
    (hg3 : Grows w2 w3) (hl3 : RList w3 vw2 (addC c x)) (ho3 : ∀ k, vw2.ownBlock = some k → vw.ownBlock = some k ∨ w2.heap.size ≤ k) : Side w3 B b vl2 ll2 vw2 (addC c x) := by
  refine ⟨hl2.grows hg3, he2, hl3, fun k hk hk2 => ?_, addC_order h.ord x, addC_short h.sht hx⟩
  have hlt2 := (hl2.own.lt k hk2).2
  rcases ho3 k hk with hk3 | hk3
  · have hltw := h.lst.own_lt hk3
    rcases ho2 k hk2 with hk4 | hk4
    · exact h.sep k hk3 hk4
    · omega
  · omega
/-- How both start. -/
theorem Side.start {w : World} {B b : Nat} (h : LogAt w B b (.slice none 0 0) []) : Side w B b (.slice none 0 0) [] (.slice none 0 0) [] :=
  ⟨h, rfl, ⟨elist_nil _ _, fun _ => rfl⟩, fun k hk => by simp [Value.ownBlock] at hk, List.Pairwise.nil, fun x hx => by simp at hx⟩

theorem Side.grows {w w' : World} {B b : Nat} {vl vw : Value} {ll : List EW} {c : List EC} (h : Side w B b vl ll vw c) (hg : Grows w w') : Side w' B b vl ll vw c :=
  ⟨h.log.grows hg, h.eq, h.lst.grows hg, h.sep, h.ord, h.sht⟩

theorem logBetween_walk (v : Value) (l : List EW) (lo hi : Int) (w : World) (h : EHas w v l) (hm : l.length ≤ 9223372036854775807) :
    Calls Try.prog 6 #[v, .int .i64 lo, .int .i64 hi] w (RetV w (.bool true)) := by
  have HC := Lib.hid (fun W (hg : Grows w W) => cut_any v l W (h.grows hg) hm)
  have HW := Lib.hid (fun W => logWorks_any W)
  clear h hm
  go_enter Try.func6, Try.ntmps6
  go_wp2_with fail
  refine (lnew_any _).mono ?_
  rintro e w1 ⟨rfl, hg1, hl1⟩
  obtain ⟨b, eb⟩ : ∃ b, w.heap.size = b := ⟨_, rfl⟩
  have hB1 : Below w.heap.size w w1 := hg1
  have G1 := Lib.hid hg1
  rw [eb] at hl1 hB1 ⊢
  have H1 := Lib.hid hl1
  have B1 := Lib.hid hB1
  have EB := Lib.hid eb
  clear hg1 hl1 hB1 eb
  go_wp2_with fail
  refine (HC.out _ G1.out).mono ?_
  rintro e w2 ⟨vc, rfl, hg2, lc, hoc, hbc, hcc⟩
  obtain ⟨n, en⟩ : ∃ n, lc.length = n := ⟨_, rfl⟩
  have hn40 : n ≤ 40 := by
    have h1 := congrArg List.length hcc
    have h2 := cutC_length (cores l)
    simp only [List.length_map] at h1
    omega
  obtain ⟨a, cap, rfl⟩ := (eown_has hoc hbc).len en
  have hsc : Short (cores lc) := by rw [hcc]; exact cutC_short _
  have HSC := Lib.hid hsc
  have hS2 := Side.start (H1.out.grows hg2)
  have S2 := Lib.hid hS2
  have B2 := Lib.hid (B1.out.trans ((hg2 : Below _ _ _).mono (Nat.le_trans (by rw [← EB.out]; exact Nat.le_refl _) (G1.out.size))))
  have OC := Lib.hid hoc
  have BC := Lib.hid hbc
  have EN := Lib.hid en
  have hrow : ∀ k, (Value.slice a n cap).ownBlock = some k → k < w2.heap.size := fun k hk => (hoc.lt k hk).2
  have HROW := Lib.hid hrow
  have hbw : b ≤ w1.heap.size := by rw [← EB.out]; exact G1.out.size
  have HBW := Lib.hid (Nat.le_trans hbw hg2.size)
  clear hg2 hoc hbc hcc en hsc hS2 hrow hbw
  go_wp2_with fail
  go_loopw [8, 10, 15] (fun vw _ vi wr => ∃ (k : Nat) (vl : Value) (ll : List EW) (c : List EC), vi = .int .i64 (k : Int) ∧ k ≤ n ∧ c.length ≤ k ∧ Side wr b b vl ll vw c ∧ w2.heap.size ≤ wr.heap.size ∧ (∀ j, vl.ownBlock = some j → w2.heap.size ≤ j) ∧ EOwn wr w1.heap.size (.slice a n cap) lc ∧ Bods wr lc ∧ Below b w wr) (fun _ _ vi _ => n - (intOf vi).toNat)
  case atStart => exact ⟨0, _, _, _, rfl, Nat.zero_le _, Nat.le_refl _, S2.out, Nat.le_refl _, fun j hj => by simp [Value.ownBlock] at hj, OC.out, BC.out, B2.out⟩
  case round =>
    obtain ⟨k, vl, ll, c, rfl, hk, hck, hS, hsz, hnew, hoc, hbc, hB⟩ := hrel
    have S := Lib.hid hS
    have HN := Lib.hid hnew
    have OC := Lib.hid hoc
    have BC := Lib.hid hbc
    have BB := Lib.hid hB
    have hwb : b ≤ wr.heap.size := by rw [← EB.out]; exact hB.size
    by_cases hlt : k < n
    · have hk6 : k ≤ 1000000 := Nat.le_trans (Nat.le_of_lt hlt) (Nat.le_trans hn40 (by decide))
      have HNF := Lib.hid (nat_facts k hk6)
      have HWS := Lib.hid (wrap_succ hk6)
      have HKK := Lib.hid hlt
      have hcl : c.length ≤ 100000 := Nat.le_trans hck (Nat.le_trans hk (Nat.le_trans hn40 (by decide)))
      obtain ⟨g, o, c', he, hcap, hg, hat⟩ := (eown_has hoc hbc).form EN.out (Nat.lt_of_le_of_lt (Nat.zero_le _) hlt)
      simp only [Value.slice.injEq, true_and] at he
      obtain ⟨rfl, rfl⟩ := he
      have hkl : k < lc.length := by rw [EN.out]; exact hlt
      obtain ⟨p0, p1, p2, p3, p4⟩ := eat_cells hat k hkl
      have hxm : lc[k] ∈ lc := List.getElem_mem _
      have hxs := HSC.out _ (List.mem_map_of_mem (f := EW.core) hxm)
      have hxb := hbc _ hxm
      obtain ⟨x, ex⟩ : ∃ x, lc[k] = x := ⟨_, rfl⟩
      rw [ex] at p0 p1 p2 p3 p4 hxs hxb
      have HX := Lib.hid hxb
      have HXS := Lib.hid hxs
      have hxl : x.bl ≤ 1000000 := by
        have h1 := (brow_has hxb).1
        simp only at hxs
        rw [← h1]
        exact Nat.le_trans hxs (by decide)
      have hgb : Grows wr (wr.alloc (.cells #[.int .i64 x.a, .int .i64 x.k.t, .int .i64 x.k.f, .int .u32 x.k.s, x.bv] 56)) := bl_alloc (Below.refl _ _) _
      have hadd := ladd_any x _ (hS.log.grows hgb) (Nat.le_trans hwb hgb.size) (by have h1 := congrArg List.length hS.eq; simp only [List.length_map] at h1; rw [h1]; exact Nat.le_trans hcl (by decide)) (brow_has (own_grows hxb hgb)) hxl
      rw [show AddPost _ _ _ _ ll x = AddPost (wr.alloc (.cells #[.int .i64 x.a, .int .i64 x.k.t, .int .i64 x.k.f, .int .u32 x.k.s, x.bv] 56)) b b vl ll x from rfl] at hadd
      have HA := Lib.hid hadd
      have HCK := Lib.hid (Nat.succ_le_succ hck)
      have HCL := Lib.hid hcl
      have HGB := Lib.hid hgb
      have hbx := heap_alloc_new wr (.cells #[.int .i64 x.a, .int .i64 x.k.t, .int .i64 x.k.f, .int .u32 x.k.s, x.bv] 56)
      have HBX := Lib.hid hbx
      have hkn : (k : Int) < (n : Int) := Int.ofNat_lt.2 hlt
      clear hS hnew hoc hbc hB hat hkl hxm hxs hxb ex hadd hck hcl hbx hk6 hxl hk hn40 hgb
      obtain ⟨j1, j2, j3, j4, j6⟩ := HNF.out
      go_wp2_with fail
      refine (HA.out).mono ?_
      rintro e w3 ⟨rfl, vl3, ll3, hl3, hc3, hch3, ho3⟩
      have hbl : b < wr.heap.size := S.out.log.lt
      have hob : ∀ j, vl.ownBlock = some j → j < wr.heap.size := fun j hj => (S.out.log.own.lt j hj).2
      have q0 : w3.heap[wr.heap.size]? = some (.cells #[.int .i64 x.a, .int .i64 x.k.t, .int .i64 x.k.f, .int .u32 x.k.s, x.bv] 56) := by
        rw [hch3.block wr.heap.size (by simp) (fun hs => by
          rcases hs with hs | hs
          · rw [hs] at hbl; exact Nat.lt_irrefl _ hbl
          · exact Nat.lt_irrefl _ (hob _ hs))]
        exact HBX.out
      obtain ⟨a0, -⟩ := cell_in q0 0 rfl
      obtain ⟨a1, -⟩ := cell_in q0 1 rfl
      obtain ⟨a2, -⟩ := cell_in q0 2 rfl
      obtain ⟨a3, -⟩ := cell_in q0 3 rfl
      obtain ⟨a4, -⟩ := cell_in q0 4 rfl
      have hsB := S.out.grows HGB.out
      have hrl := hsB.lst.add hsB.log hch3 hsB.sep
      have hbr := brow_chg (own_grows HX.out HGB.out) hch3 hsB.log.noBytes
      have hvc : ∀ j, (Value.slice (some ⟨g, o, none⟩) n cap).ownBlock = some j → vl.ownBlock ≠ some j := fun j hj hj2 => Nat.lt_irrefl _ (Nat.lt_of_lt_of_le (HROW.out j hj) (HN.out j hj2))
      obtain ⟨hoc3, hbc3⟩ := ents_kept (own_grows OC.out HGB.out) (BC.out.grows HGB.out) hsB.log hch3 hvc
      have hB3 := hsB.log.below (w0 := w) (B := b) (BB.out.trans ((HGB.out : Below _ _ _).mono hwb)) (Nat.le_refl _) (Nat.le_refl _) (by rw [← EB.out]; exact Nat.le_refl _) hch3
      have hs3 := hch3.size
      rw [S.out.eq] at hc3
      have HRA := Lib.hid (radd_any u8 c x w3 hrl HCL.out hbr)
      have L3 := Lib.hid (And.intro hl3 (And.intro hc3 (And.intro hch3 ho3)))
      have OC3 := Lib.hid hoc3
      have BC3 := Lib.hid hbc3
      have B3 := Lib.hid hB3
      have hsz3 : w2.heap.size ≤ w3.heap.size := Nat.le_trans hsz (Nat.le_trans HGB.out.size hs3)
      have hnew3 : ∀ j, vl3.ownBlock = some j → w2.heap.size ≤ j := fun j hj => by
        rcases ho3 j hj with h | h
        · exact HN.out j h
        · exact Nat.le_trans hsz (Nat.le_trans HGB.out.size h)
      have HN3 := Lib.hid hnew3
      have HSZ3 := Lib.hid hsz3
      have hwb3 : b ≤ w3.heap.size := Nat.le_trans hwb (Nat.le_trans HGB.out.size hs3)
      have HWB3 := Lib.hid hwb3
      have SB := Lib.hid hsB
      clear hl3 hc3 hch3 ho3 q0 hsB hrl hbr hvc hoc3 hbc3 hB3 hs3 hsz3 hnew3 hob hwb3 hsz
      go_wp2_with fail
      refine (HRA.out).mono ?_
      rintro e w4 ⟨vw4, rfl, hg4, hl4, ho4⟩
      have hside := SB.out.next (x := x.core) HXS.out L3.out.1 L3.out.2.1 L3.out.2.2.1 L3.out.2.2.2 hg4 hl4 ho4
      have HS4 := Lib.hid hside
      have G4 := Lib.hid hg4
      clear hg4 hl4 ho4 hside
      go_wp2_with fail
      go_roundw
      case rel =>
        exact ⟨k + 1, vl3, ll3, _, by rw [HWS.out]; rfl, HKK.out, Nat.le_trans (addC_length _ _) HCK.out, HS4.out, Nat.le_trans HSZ3.out G4.out.size, HN3.out, own_grows OC3.out G4.out, BC3.out.grows G4.out, B3.out.trans ((G4.out : Below _ _ _).mono HWB3.out)⟩
      case measure => rw [HWS.out]; exact meas_succ HKK.out
    · obtain rfl : k = n := Nat.le_antisymm hk (Nat.le_of_not_lt hlt)
      have hcl : c.length ≤ 1000 := Nat.le_trans hck (Nat.le_trans hn40 (by decide))
      have hlen : ll.length = c.length := by have h1 := congrArg List.length hS.eq; simpa using h1
      have hbt := lbetween_any wr hS.log (by rw [hlen]; exact Nat.le_trans hcl (by decide)) (by rw [hS.eq]; exact hS.sht) (by rw [hS.eq]; exact hS.ord) lo hi
      rw [hS.eq] at hbt
      obtain ⟨⟨lw, how, hbw, hcw⟩, -⟩ := hS.lst
      have hlw : lw.length = c.length := by have h1 := congrArg List.length hcw; simpa using h1
      have hrb := fun W (hg : Grows wr W) => rbetween_any u8 lw lo hi W (own_grows how hg) (hbw.grows hg) (by rw [hlw]; exact Nat.le_trans hcl (by decide))
      rw [hcw] at hrb
      have HBT := Lib.hid hbt
      have HRB := Lib.hid hrb
      have hbl := betweenC_length c lo hi
      have HBL := Lib.hid (Nat.le_trans hbl (Nat.le_trans hcl (by decide : 1000 ≤ 100000)))
      clear hS hsz hnew hoc hbc hB hbt hrb how hbw hcw hlw hlen hcl hbl hk hck hlt hn40
      go_wp2_with fail
      refine (HBT.out).mono ?_
      rintro e w5 ⟨v5, rfl, hg5, l5, ho5, hb5, hc5⟩
      have E5 := Lib.hid (eown_has ho5 hb5)
      have C5 := Lib.hid hc5
      have G5 := Lib.hid hg5
      clear ho5 hb5 hc5 hg5
      go_wp2_with fail
      refine (HRB.out _ G5.out).mono ?_
      rintro e w6 ⟨v6, rfl, hg6, l6, ho6, hb6, hc6⟩
      have hal := all_any v5 v6 l5 l6 w6 (E5.out.grows hg6) (eown_has ho6 hb6) (by have h1 := congrArg List.length C5.out; simp only [List.length_map] at h1; rw [h1]; exact HBL.out) (C5.out.trans hc6.symm)
      have HAL := Lib.hid hal
      have G6 := Lib.hid (grows_trans _ _ _ G5.out hg6)
      clear ho6 hb6 hc6 hg6 hal
      go_wp2_with fail
      refine (HAL.out).mono ?_
      rintro e w7 ⟨rfl, hg7⟩
      have G7 := Lib.hid (grows_trans _ _ _ G6.out hg7)
      clear hg7
      go_wp2_with fail
      refine (HW.out _).mono ?_
      rintro e w8 ⟨rfl, hg8⟩
      have G8 := Lib.hid (grows_trans _ _ _ G7.out hg8)
      clear hg8
      go_wp2_with fail
      go_ret
      refine ⟨rfl, ?_⟩
      have := BB.out.trans ((G8.out : Below _ _ _).mono hwb)
      rw [← EB.out] at this
      exact this
end Go.Proofs.Ytkihhdoejpjbbaa
