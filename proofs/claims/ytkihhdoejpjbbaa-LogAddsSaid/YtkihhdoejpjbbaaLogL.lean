/- The walk of LogAdds. -/
import Derived.Test.YtkihhdoejpjbbaaLogK
import Derived.Test.YtkihhdoejpjbbaaWideN
namespace Go.Proofs.Ytkihhdoejpjbbaa
open Go.RowKit Go.Sort
set_option maxHeartbeats 2000000
set_option maxRecDepth 100000

/-- As Side.next, the document's list first. -/
theorem Side.next' {w w2 w3 : World} {B b : Nat} {vl vw vl2 vw2 : Value} {ll ll2 : List EW} {c : List EC} {x : EC} (h : Side w B b vl ll vw c) (hx : x.2.2.length ≤ 1000)
    (hg2 : Grows w w2) (hl2 : RList w2 vw2 (addC c x)) (ho2 : ∀ k, vw2.ownBlock = some k → vw.ownBlock = some k ∨ w.heap.size ≤ k)
    (hl3 : LogAt w3 B b vl2 ll2) (he3 : cores ll2 = addC c x) (hc3 : Chg (LogS b vl) w2 w3) (ho3 : ∀ k, vl2.ownBlock = some k → vl.ownBlock = some k ∨ w2.heap.size ≤ k) : Side w3 B b vl2 ll2 vw2 (addC c x) := by
  have hlog := h.log.grows hg2
  have hsep : ∀ k, vw2.ownBlock = some k → vl.ownBlock ≠ some k := fun k hk hk2 => by
    have h2 := (h.log.own.lt k hk2).2
    rcases ho2 k hk with h3 | h3
    · exact h.sep k h3 hk2
    · omega
  refine ⟨hl3, he3, hl2.add hlog hc3 hsep, fun k hk hk2 => ?_, addC_order h.ord x, addC_short h.sht hx⟩
  rcases ho3 k hk2 with h3 | h3
  · exact hsep k hk h3
  · have := hl2.own_lt hk
    omega

/-- The list from one place on. -/
theorem ehas_from {w : World} {g n cap f : Nat} {l : List EW} {o : Nat} (h : EHas w (.slice (some ⟨g, o, none⟩) n cap) l) (hn : l.length = n) (hf : f < n) : EHas w (.slice (some ⟨g, o + f * 5, none⟩) (n - f) (cap - f)) (l.drop f) := by
  refine ⟨.inr ?_, fun x hx => h.2 x (List.mem_of_mem_drop hx)⟩
  obtain ⟨g', o', c', he, h1, h2, hat⟩ := h.form hn (by omega)
  cases he
  refine ⟨g, o + f * 5, cap - f, by rw [List.length_drop, hn], by rw [List.length_drop, hn]; omega, h2, ?_⟩
  intro i hi j hj
  rw [List.length_drop] at hi
  have := hat (f + i) (by omega) j hj
  rw [List.getElem_drop]
  rw [← this]
  congr 2
  rw [Nat.add_mul]
  omega

/-- A slice of entries that say c. -/
def sgE (c : List EC) : SG Grows := ⟨fun v w => ∃ l, EHas w v l ∧ cores l = c, fun _ _ _ ⟨l, h1, h2⟩ hg => ⟨l, h1.grows hg, h2⟩⟩

theorem logAdds_walk (v : Value) (l : List EW) (i : Int) (w : World) (h : EHas w v l) (hm : l.length ≤ 9223372036854775807) (hi : -9223372036854775808 ≤ i ∧ i ≤ 9223372036854775807) :
    Calls Try.prog 8 #[v, .int .i64 i] w (RetV w (.bool true)) := by
  have HC := Lib.hid (cut_any v l w h hm)
  have HW := Lib.hid (fun W => logWorks_any W)
  have HI := Lib.hid hi
  clear h hm hi
  go_enter Try.func8, Try.ntmps8
  go_wp2_with fail
  refine (HC.out).mono ?_
  rintro e w1 ⟨vc, rfl, hg1, lc, hoc, hbc, hcc⟩
  obtain ⟨n, en⟩ : ∃ n, lc.length = n := ⟨_, rfl⟩
  have hn40 : n ≤ 40 := by
    have h1 := congrArg List.length hcc
    have h2 := cutC_length (cores l)
    simp only [List.length_map] at h1
    omega
  obtain ⟨a, cap, rfl⟩ := (eown_has hoc hbc).len en
  have hsc : Short (cores lc) := by rw [hcc]; exact cutC_short _
  have HSC := Lib.hid hsc
  have G1 := Lib.hid hg1
  have OC := Lib.hid hoc
  have BC := Lib.hid hbc
  have EN := Lib.hid en
  have HROW : Hid (∀ k, (Value.slice a n cap).ownBlock = some k → k < w1.heap.size) := Lib.hid (fun k hk => (hoc.lt k hk).2)
  clear hg1 hoc hbc hcc en hsc
  go_wp2_with fail
  refine (lnew_any _).mono ?_
  rintro e w2 ⟨rfl, hg2, hl2⟩
  obtain ⟨b, eb⟩ : ∃ b, w1.heap.size = b := ⟨_, rfl⟩
  rw [eb] at hl2 ⊢
  have OC := Lib.hid (own_grows OC.out hg2)
  have BC := Lib.hid (BC.out.grows hg2)
  have S2 := Lib.hid (Side.start hl2)
  have HW0 : Hid (w.heap.size ≤ b) := Lib.hid (by rw [← eb]; exact G1.out.size)
  have B2 := Lib.hid (grows_trans _ _ _ G1.out hg2 : Below w.heap.size w w2)
  rw [eb] at HROW
  have HB2 : Hid (b ≤ w2.heap.size) := Lib.hid (by rw [← eb]; exact hg2.size)
  clear hg2 hl2 eb
  go_wp2_with fail
  go_loopw [6, 8, 9, 10, 19] (fun vw _ _ _ vi wr => ∃ (k : Nat) (vl : Value) (ll : List EW) (c : List EC), vi = .int .i64 (k : Int) ∧ k ≤ n ∧ c.length ≤ k ∧ Side wr b b vl ll vw c ∧ EOwn wr w.heap.size (.slice a n cap) lc ∧ Bods wr lc ∧ Below w.heap.size w wr ∧ b ≤ wr.heap.size) (fun _ _ _ _ vi _ => n - (intOf vi).toNat)
  case atStart => exact ⟨0, _, _, _, rfl, Nat.zero_le _, Nat.le_refl _, S2.out, OC.out, BC.out, B2.out, HB2.out⟩
  case round =>
    obtain ⟨k, vl, ll, c, rfl, hk, hck, hS, hoc, hbc, hB, hwb⟩ := hrel
    have S := Lib.hid hS
    have OC := Lib.hid hoc
    have BC := Lib.hid hbc
    have BB := Lib.hid hB
    by_cases hlt : k < n
    · have hk6 : k ≤ 1000000 := Nat.le_trans (Nat.le_of_lt hlt) (Nat.le_trans hn40 (by decide))
      have HNF := Lib.hid (nat_facts k hk6)
      have HWS := Lib.hid (wrap_succ hk6)
      have HKK := Lib.hid hlt
      have hcl : c.length ≤ 100000 := Nat.le_trans hck (Nat.le_trans hk (Nat.le_trans hn40 (by decide)))
      obtain ⟨g, o, c', he, hcap, hg, hat⟩ := (eown_has hoc hbc).form EN.out (Nat.lt_of_le_of_lt (Nat.zero_le _) hlt)
      simp only [Value.slice.injEq, true_and] at he
      obtain ⟨rfl, rfl⟩ := he
      have hkl : k < lc.length := by rw [EN.out]; exact hlt
      obtain ⟨p0, p1, p2, p3, p4⟩ := eat_cells hat k hkl
      have hxm : lc[k] ∈ lc := List.getElem_mem _
      have hxs := HSC.out _ (List.mem_map_of_mem (f := EW.core) hxm)
      have hxb := hbc _ hxm
      obtain ⟨x, ex⟩ : ∃ x, lc[k] = x := ⟨_, rfl⟩
      rw [ex] at p0 p1 p2 p3 p4 hxs hxb
      have HXS := Lib.hid hxs
      have hxl : x.bl ≤ 1000000 := by
        have h1 := (brow_has hxb).1
        simp only at hxs
        rw [← h1]
        exact Nat.le_trans hxs (by decide)
      have hgb : Grows wr (wr.alloc (.cells #[.int .i64 x.a, .int .i64 x.k.t, .int .i64 x.k.f, .int .u32 x.k.s, x.bv] 56)) := bl_alloc (Below.refl _ _) _
      have hra := radd_any u6 c x _ (hS.lst.grows hgb) hcl (own_grows hxb hgb)
      have HRA := Lib.hid hra
      have HX := Lib.hid (own_grows hxb hgb)
      have HXL := Lib.hid hxl
      have HCK := Lib.hid (Nat.succ_le_succ hck)
      have HCL := Lib.hid hcl
      have HGB := Lib.hid hgb
      have HBX := Lib.hid (heap_alloc_new wr (.cells #[.int .i64 x.a, .int .i64 x.k.t, .int .i64 x.k.f, .int .u32 x.k.s, x.bv] 56))
      have hkn : (k : Int) < (n : Int) := Int.ofNat_lt.2 hlt
      clear hS hoc hbc hB hat hkl hxm hxs hxb ex hra hck hcl hk6 hxl hk hn40 hgb
      obtain ⟨j1, j2, j3, j4, j6⟩ := HNF.out
      go_wp2_with fail
      refine (HRA.out).mono ?_
      rintro e w3 ⟨vw3, rfl, hg3, hl3, ho3⟩
      have hsB := S.out.grows HGB.out
      have q0 := (hg3.block wr.heap.size (by simp)).trans HBX.out
      obtain ⟨a0, -⟩ := cell_in q0 0 rfl
      obtain ⟨a1, -⟩ := cell_in q0 1 rfl
      obtain ⟨a2, -⟩ := cell_in q0 2 rfl
      obtain ⟨a3, -⟩ := cell_in q0 3 rfl
      obtain ⟨a4, -⟩ := cell_in q0 4 rfl
      have hlog := hsB.log.grows hg3
      have hwb3 : b ≤ w3.heap.size := Nat.le_trans hwb (Nat.le_trans HGB.out.size hg3.size)
      have hlen : ll.length ≤ 1000000 := by
        have h1 := congrArg List.length hsB.eq
        simp only [List.length_map] at h1
        rw [h1]
        exact Nat.le_trans HCL.out (by decide)
      have hadd := ladd_any x w3 hlog hwb3 hlen (brow_has (own_grows HX.out hg3)) HXL.out
      unfold AddPost at hadd
      rw [hsB.eq] at hadd
      have HA := Lib.hid hadd
      have L3 := Lib.hid (And.intro hl3 ho3)
      have G3 := Lib.hid hg3
      have SB := Lib.hid hsB
      have hvc : ∀ j, (Value.slice (some ⟨g, o, none⟩) n cap).ownBlock = some j → vl.ownBlock ≠ some j := fun j hj hj2 => Nat.lt_irrefl _ (Nat.lt_of_lt_of_le (HROW.out j hj) (hsB.log.own.lt j hj2).1)
      have HVC := Lib.hid hvc
      have hB3 := BB.out.trans ((grows_trans _ _ _ HGB.out hg3 : Below _ _ _).mono (BB.out.size))
      have B3 := Lib.hid hB3
      have LOG := Lib.hid hlog
      have HWB3 := Lib.hid hwb3
      clear hsB q0 hlog hwb3 hlen hadd hl3 ho3 hvc hB3
      go_wp2_with fail
      refine (HA.out).mono ?_
      rintro e w4 ⟨rfl, vl4, ll4, hl4, hc4, hch4, ho4⟩
      have hside := SB.out.next' (x := x.core) HXS.out G3.out L3.out.1 L3.out.2 hl4 hc4 hch4 ho4
      obtain ⟨hoc4, hbc4⟩ := ents_kept (own_grows (own_grows OC.out HGB.out) G3.out) ((BC.out.grows HGB.out).grows G3.out) LOG.out hch4 HVC.out
      have hB4 := LOG.out.below (w0 := w) (B := w.heap.size) B3.out HW0.out HW0.out (Nat.le_refl _) hch4
      have hln := llen_any w4 hl4
      have hlen4 : (ll4.length : Int) = ((addC c x.core).length : Int) := by rw [← hc4]; simp
      rw [hlen4] at hln
      obtain ⟨lw, how, hbw, hcw⟩ := hside.lst.1
      obtain ⟨aw, cpw, hvw⟩ := (eown_has how hbw).len (show lw.length = (addC c x.core).length by rw [← hcw]; simp)
      obtain ⟨N, eN⟩ : ∃ N, (addC c x.core).length = N := ⟨_, rfl⟩
      have HLEN := Lib.hid (addC_length c x.core)
      obtain ⟨C, eC⟩ : ∃ C, addC c x.core = C := ⟨_, rfl⟩
      rw [eC] at hside HLEN
      have HCN : Hid (C.length = N) := Lib.hid (by rw [← eC]; exact eN)
      rw [eN] at hln hvw
      subst hvw
      have HLN := Lib.hid hln
      have HS4 := Lib.hid hside
      have OC4 := Lib.hid hoc4
      have BC4 := Lib.hid hbc4
      have B4 := Lib.hid hB4
      have HWB4 := Lib.hid (Nat.le_trans HWB3.out hch4.size)
      obtain ⟨E, eE⟩ : ∃ E, addCE c x.k = E := ⟨_, rfl⟩
      rw [show addCE c x.core.2.1 = addCE c x.k from rfl, eE]
      clear hl4 hc4 hch4 ho4 hside hoc4 hbc4 hB4 hln hlen4 how hbw hcw eN eC eE
      go_wp2_with (first | (go_at_call 39; refine (HLN.out).mono ?_; rintro e w' ⟨rfl, rfl⟩))
      go_roundw
      case rel => exact ⟨k + 1, vl4, ll4, C, by rw [HWS.out]; rfl, HKK.out, Nat.le_trans HLEN.out HCK.out, HS4.out, OC4.out, BC4.out, B4.out, HWB4.out⟩
      case measure => rw [HWS.out]; exact meas_succ HKK.out
    · obtain rfl : k = n := Nat.le_antisymm hk (Nat.le_of_not_lt hlt)
      have hcl : c.length ≤ 40 := Nat.le_trans hck hn40
      obtain ⟨⟨lw, how, hbw, hcw⟩, hnil⟩ := hS.lst
      obtain ⟨N, eN⟩ : ∃ N, c.length = N := ⟨_, rfl⟩
      have hlw : lw.length = N := by rw [← eN, ← hcw]; simp
      have hll : ll.length = N := by rw [← eN, ← hS.eq]; simp
      obtain ⟨aw, cpw, hvw⟩ := (eown_has how hbw).len hlw
      subst hvw
      -- behind the loop
      have hsht := hS.sht
      have hsl : Short (cores ll) := by rw [hS.eq]; exact hsht
      have hlm : ll.length ≤ 100000 := by rw [hll, ← eN]; exact Nat.le_trans hcl (by decide)
      obtain ⟨f, ef⟩ : ∃ f, i.toNat = f := ⟨_, rfl⟩
      have hsi := fun W (hg : Grows wr W) => since_any W (hS.log.grows hg) hlm hsl i f (by omega)
      have hsi0 := fun W (hg : Grows wr W) => since_any W (hS.log.grows hg) hlm hsl 0 0 rfl
      rw [hS.eq] at hsi hsi0
      have HSI := Lib.hid hsi
      have HSI0 := Lib.hid hsi0
      have hEW := eown_has how hbw
      have HEW := Lib.hid hEW
      have HLW := Lib.hid hlw
      have HCW := Lib.hid hcw
      have HS := Lib.hid hS
      have HSL := Lib.hid hsl
      have HLM := Lib.hid hlm
      have HLL := Lib.hid hll
      have HEN := Lib.hid eN
      have HN40 : Hid (N ≤ 40) := Lib.hid (by rw [← eN]; exact hcl)
      have HNIL : Hid (c = [] → Value.slice aw N cpw = .slice none 0 0) := Lib.hid hnil
      have HZ := Lib.hid (fun W => rsame_any (⟨0, ⟨0, 0, 0⟩, none, 0, 0, []⟩ : EW) (⟨0, ⟨0, 0, 0⟩, none, 0, 0, []⟩ : EW) W ⟨rfl, .inl rfl⟩ ⟨rfl, .inl rfl⟩)
      rw [sameE_of rfl rfl rfl] at HZ
      have HSHT := Lib.hid hsht
      clear hS hoc hbc hB hsht hsl hlm hsi hsi0 hEW hlw hcw hll eN hcl hnil how hbw hck hk hlt hn40
      rcases Int.lt_or_le i 0 with hi0 | hi0
      · have HF0 : Hid (f = 0) := Lib.hid (by omega)
        have HAT := Lib.hid (lat_low (.pointer (some ⟨b, 0, none⟩)) i hi0 wr (.inr ⟨b, rfl⟩))
        go_wp2_with fail
        refine (HAT.out).mono ?_
        rintro e w3 ⟨rfl, hg3⟩
        have G3 := Lib.hid hg3
        clear hg3
        go_wp2_with fail
        refine (HZ.out _).mono ?_
        rintro e w4 ⟨rfl, hg4⟩
        have G4 := Lib.hid (grows_trans _ _ _ G3.out (grows_trans _ _ _ (bl_alloc (Below.refl _ _) _ : Below w3.heap.size w3 _) hg4))
        clear hg4
        by_cases hN : N = 0
        · subst hN
          have HC0 : Hid (c = []) := Lib.hid (List.eq_nil_of_length_eq_zero HEN.out)
          have he := HNIL.out HC0.out
          cases he
          go_wp2_with fail
          refine WideN.wp_wide3 [.fix _ (.pointer (some ⟨b, 0, none⟩)), .fix _ (.int .i64 i), sgE (c.drop f), .fix _ (.slice none 0 0), .fix _ (.int .i64 0), sgE (c.drop f), .fix _ (.bool true), .fix _ (.bool true), .fix _ (.pointer (some ⟨b, 0, none⟩)), sgE c, .fix _ (.slice none 0 0), .fix _ (.bool true), .fix _ (.bool true), .fix _ (.bool true), .fix _ (.bool true), .fix _ (.bool true), .fix _ (.bool true)] ?_ (by kernel_rfl) (by kernel_rfl) rfl (fun vals => by simp [Act.over, dstsOf, overL]; rfl) ?_ ?_
          · refine ⟨?_, ?_, ?_, ?_, ?_, ?_, ?_, ?_, ?_, ?_, ?_, ?_, ?_, ?_, ?_, ?_, ?_, trivial⟩
            all_goals
              intro vals w' hE hn R hR
              simp [WideN.needsOf, Region.binds, dstAt, gOf, SG.fix, sgE] at hn hR
              have HR0 := Lib.hid hR
              try simp only [hn] at hR
              have HR := Lib.hid hR
              have HE := Lib.hid (grows_trans _ _ _ G4.out hE)
              clear hR hE
            · go_wp2_with fail
              exact HR.out _ _ rfl (grows_refl _)
            · go_wp2_with fail
              exact HR.out _ _ rfl (grows_refl _)
            · go_wp2_with (go_at_call 42; refine (HSI.out _ HE.out).mono ?_; rintro e w9 ⟨v9, rfl, hg9, l9, ho9, hb9, hc9⟩)
              exact HR.out _ _ l9 (eown_has ho9 hb9) hc9 hg9
            · go_wp2_with fail
              exact HR.out _ _ rfl (grows_refl _)
            · go_wp2_with fail
              exact HR.out _ _ rfl (grows_refl _)
            · go_wp2_with fail
              exact HR.out _ _ [] ⟨.inl ⟨rfl, _, _, rfl⟩, fun x hx => by simp at hx⟩ (by rw [HC0.out]; simp) (grows_refl _)
            · obtain ⟨⟨la, ha, hca⟩, ⟨lb, hb, hcb⟩, -⟩ := hn
              have hal := all_any _ _ la lb w' ha hb (by have h1 := congrArg List.length hca; have h2 := HN40.out; have h3 := HEN.out; simp only [List.length_map, List.length_drop] at h1; omega) (hca.trans hcb.symm)
              go_wp2_with (go_at_call 33; refine (hal).mono ?_; rintro e w9 ⟨rfl, hg9⟩)
              exact HR0.out _ _ rfl hg9
            · go_wp2_with fail
              exact HR.out _ _ rfl (grows_refl _)
            · go_wp2_with fail
              exact HR.out _ _ rfl (grows_refl _)
            · obtain ⟨h88, h87⟩ := hn
              go_wp2_with (go_at_call 42; refine (HSI0.out _ HE.out).mono ?_; rintro e w9 ⟨v9, rfl, hg9, l9, ho9, hb9, hc9⟩)
              exact HR.out _ _ l9 (eown_has ho9 hb9) (by simpa using hc9) hg9
            · go_wp2_with fail
              exact HR.out _ _ rfl (grows_refl _)
            · obtain ⟨⟨la, ha, hca⟩, h90, -, h87⟩ := hn
              have hal := all_any _ _ la lw w' ha (HEW.out.grows HE.out) (by have h1 := congrArg List.length hca; have h2 := HN40.out; have h3 := HEN.out; simp only [List.length_map] at h1; omega) (hca.trans HCW.out.symm)
              have hR9 := HR0.out
              simp only [h90, h87] at hR9
              go_wp2_with (go_at_call 33; refine (hal).mono ?_; rintro e w9 ⟨rfl, hg9⟩)
              exact hR9 _ _ rfl hg9
            · go_wp2_with fail
              exact HR.out _ _ rfl (grows_refl _)
            · go_wp2_with fail
              exact HR.out _ _ rfl (grows_refl _)
            · go_wp2_with (go_at_call 36; refine (HW.out _).mono ?_; rintro e w9 ⟨rfl, hg9⟩)
              exact HR.out _ _ rfl hg9
            · go_wp2_with fail
              exact HR.out _ _ rfl (grows_refl _)
            · go_wp2_with fail
              exact HR.out _ _ rfl (grows_refl _)
          · intro vals w9 hE hn
            have n4 := hn 16 4 rfl
            simp [gOf, SG.fix] at n4
            have HE := Lib.hid (BB.out.trans (((grows_trans _ _ _ G4.out hE : Grows wr w9) : Below _ _ _).mono BB.out.size))
            clear hn hE
            go_wp2_with fail
            go_ret
            exact ⟨congrArg Ending.returned n4, HE.out⟩
        · have hNp : 0 < N := Nat.pos_of_ne_zero hN
          obtain ⟨g, o, c', he, hcap, hg, hat⟩ := HEW.out.form HLW.out (Nat.pos_of_ne_zero hN)
          cases he
          have hcapi : (N : Int) ≤ (cpw : Int) := Int.ofNat_le.2 hcap
          have HGW := Lib.hid hg
          have HHAT := Lib.hid hat
          clear hat hg
          go_wp2_with fail
          refine WideN.wp_wide3 [.fix _ (.pointer (some ⟨b, 0, none⟩)), .fix _ (.int .i64 i), sgE (c.drop f), .fix _ (.slice (some ⟨g, o, none⟩) N cpw), .fix _ (.int .i64 0), sgE (c.drop f), .fix _ (.bool true), .fix _ (.bool true), .fix _ (.pointer (some ⟨b, 0, none⟩)), sgE c, .fix _ (.slice (some ⟨g, o, none⟩) N cpw), .fix _ (.bool true), .fix _ (.bool true), .fix _ (.bool true), .fix _ (.bool true), .fix _ (.bool true), .fix _ (.bool true)] ?_ (by kernel_rfl) (by kernel_rfl) rfl (fun vals => by simp [Act.over, dstsOf, overL]; rfl) ?_ ?_
          · refine ⟨?_, ?_, ?_, ?_, ?_, ?_, ?_, ?_, ?_, ?_, ?_, ?_, ?_, ?_, ?_, ?_, ?_, trivial⟩
            all_goals
              intro vals w' hE hn R hR
              simp [WideN.needsOf, Region.binds, dstAt, gOf, SG.fix, sgE] at hn hR
              have HR0 := Lib.hid hR
              try simp only [hn] at hR
              have HR := Lib.hid hR
              have HE := Lib.hid (grows_trans _ _ _ G4.out hE)
              clear hR hE
            · go_wp2_with fail
              exact HR.out _ _ rfl (grows_refl _)
            · go_wp2_with fail
              exact HR.out _ _ rfl (grows_refl _)
            · go_wp2_with (go_at_call 42; refine (HSI.out _ HE.out).mono ?_; rintro e w9 ⟨v9, rfl, hg9, l9, ho9, hb9, hc9⟩)
              exact HR.out _ _ l9 (eown_has ho9 hb9) hc9 hg9
            · go_wp2_with fail
              exact HR.out _ _ rfl (grows_refl _)
            · go_wp2_with fail
              exact HR.out _ _ rfl (grows_refl _)
            · go_wp2_with fail
              exact HR.out _ _ lw (HEW.out.grows HE.out) (by rw [HCW.out, HF0.out]; simp) (grows_refl _)
            · obtain ⟨⟨la, ha, hca⟩, ⟨lb, hb, hcb⟩, -⟩ := hn
              have hal := all_any _ _ la lb w' ha hb (by have h1 := congrArg List.length hca; have h2 := HN40.out; have h3 := HEN.out; simp only [List.length_map, List.length_drop] at h1; omega) (hca.trans hcb.symm)
              go_wp2_with (go_at_call 33; refine (hal).mono ?_; rintro e w9 ⟨rfl, hg9⟩)
              exact HR0.out _ _ rfl hg9
            · go_wp2_with fail
              exact HR.out _ _ rfl (grows_refl _)
            · go_wp2_with fail
              exact HR.out _ _ rfl (grows_refl _)
            · obtain ⟨h88, h87⟩ := hn
              go_wp2_with (go_at_call 42; refine (HSI0.out _ HE.out).mono ?_; rintro e w9 ⟨v9, rfl, hg9, l9, ho9, hb9, hc9⟩)
              exact HR.out _ _ l9 (eown_has ho9 hb9) (by simpa using hc9) hg9
            · go_wp2_with fail
              exact HR.out _ _ rfl (grows_refl _)
            · obtain ⟨⟨la, ha, hca⟩, h90, -, h87⟩ := hn
              have hal := all_any _ _ la lw w' ha (HEW.out.grows HE.out) (by have h1 := congrArg List.length hca; have h2 := HN40.out; have h3 := HEN.out; simp only [List.length_map] at h1; omega) (hca.trans HCW.out.symm)
              have hR9 := HR0.out
              simp only [h90, h87] at hR9
              go_wp2_with (go_at_call 33; refine (hal).mono ?_; rintro e w9 ⟨rfl, hg9⟩)
              exact hR9 _ _ rfl hg9
            · go_wp2_with fail
              exact HR.out _ _ rfl (grows_refl _)
            · go_wp2_with fail
              exact HR.out _ _ rfl (grows_refl _)
            · go_wp2_with (go_at_call 36; refine (HW.out _).mono ?_; rintro e w9 ⟨rfl, hg9⟩)
              exact HR.out _ _ rfl hg9
            · go_wp2_with fail
              exact HR.out _ _ rfl (grows_refl _)
            · go_wp2_with fail
              exact HR.out _ _ rfl (grows_refl _)
          · intro vals w9 hE hn
            have n4 := hn 16 4 rfl
            simp [gOf, SG.fix] at n4
            have HE := Lib.hid (BB.out.trans (((grows_trans _ _ _ G4.out hE : Grows wr w9) : Below _ _ _).mono BB.out.size))
            clear hn hE
            go_wp2_with fail
            go_ret
            exact ⟨congrArg Ending.returned n4, HE.out⟩
      · have hif : i = (f : Int) := by omega
        subst hif
        rcases Nat.lt_trichotomy N f with hNf | hNf | hNf
        · have HAT := Lib.hid (lat_high wr HS.out.log _ hi0 (by rw [HLL.out]; exact Int.ofNat_le.2 (Nat.le_of_lt hNf)))
          have HNF2 := Lib.hid (Nat.le_of_lt hNf)

          have hNfi : (N : Int) < (f : Int) := Int.ofNat_lt.2 hNf
          have hfp : (0 : Int) < (f : Int) := Int.lt_of_le_of_lt (Int.natCast_nonneg N) hNfi
          clear ef hNf

          go_wp2_with fail
          refine (HAT.out).mono ?_
          rintro e w3 ⟨rfl, hg3⟩
          have G3 := Lib.hid hg3
          clear hg3
          by_cases hN : N = 0
          · subst hN
            have HC0 : Hid (c = []) := Lib.hid (List.eq_nil_of_length_eq_zero HEN.out)
            have he := HNIL.out HC0.out
            cases he
            have hfp2 := hfp

            go_wp2_with fail
            refine (HZ.out _).mono ?_
            rintro e w4 ⟨rfl, hg4⟩
            have G4 := Lib.hid (grows_trans _ _ _ G3.out (grows_trans _ _ _ (bl_alloc (Below.refl _ _) _ : Below w3.heap.size w3 _) hg4))
            clear hg4
            go_wp2_with fail
            refine WideN.wp_wide3 [.fix _ (.pointer (some ⟨b, 0, none⟩)), .fix _ (.int .i64 (f : Int)), sgE (c.drop f), .fix _ (.slice none 0 0), .fix _ (.int .i64 0), sgE (c.drop f), .fix _ (.bool true), .fix _ (.bool true), .fix _ (.pointer (some ⟨b, 0, none⟩)), sgE c, .fix _ (.slice none 0 0), .fix _ (.bool true), .fix _ (.bool true), .fix _ (.bool true), .fix _ (.bool true), .fix _ (.bool true), .fix _ (.bool true)] ?_ (by kernel_rfl) (by kernel_rfl) rfl (fun vals => by simp [Act.over, dstsOf, overL]; rfl) ?_ ?_
            · refine ⟨?_, ?_, ?_, ?_, ?_, ?_, ?_, ?_, ?_, ?_, ?_, ?_, ?_, ?_, ?_, ?_, ?_, trivial⟩
              all_goals
                intro vals w' hE hn R hR
                simp [WideN.needsOf, Region.binds, dstAt, gOf, SG.fix, sgE] at hn hR
                have HR0 := Lib.hid hR
                try simp only [hn] at hR
                have HR := Lib.hid hR
                have HE := Lib.hid (grows_trans _ _ _ G4.out hE)
                clear hR hE
              · go_wp2_with fail
                exact HR.out _ _ rfl (grows_refl _)
              · go_wp2_with fail
                exact HR.out _ _ rfl (grows_refl _)
              · go_wp2_with (go_at_call 42; refine (HSI.out _ HE.out).mono ?_; rintro e w9 ⟨v9, rfl, hg9, l9, ho9, hb9, hc9⟩)
                exact HR.out _ _ l9 (eown_has ho9 hb9) hc9 hg9
              · go_wp2_with fail
                exact HR.out _ _ rfl (grows_refl _)
              · go_wp2_with fail
                exact HR.out _ _ rfl (grows_refl _)
              · go_wp2_with fail
                exact HR.out _ _ [] ⟨.inl ⟨rfl, _, _, rfl⟩, fun x hx => by simp at hx⟩ (by rw [HC0.out]; simp) (grows_refl _)
              · obtain ⟨⟨la, ha, hca⟩, ⟨lb, hb, hcb⟩, -⟩ := hn
                have hal := all_any _ _ la lb w' ha hb (by have h1 := congrArg List.length hca; have h2 := HN40.out; have h3 := HEN.out; simp only [List.length_map, List.length_drop] at h1; omega) (hca.trans hcb.symm)
                go_wp2_with (go_at_call 33; refine (hal).mono ?_; rintro e w9 ⟨rfl, hg9⟩)
                exact HR0.out _ _ rfl hg9
              · go_wp2_with fail
                exact HR.out _ _ rfl (grows_refl _)
              · go_wp2_with fail
                exact HR.out _ _ rfl (grows_refl _)
              · obtain ⟨h88, h87⟩ := hn
                go_wp2_with (go_at_call 42; refine (HSI0.out _ HE.out).mono ?_; rintro e w9 ⟨v9, rfl, hg9, l9, ho9, hb9, hc9⟩)
                exact HR.out _ _ l9 (eown_has ho9 hb9) (by simpa using hc9) hg9
              · go_wp2_with fail
                exact HR.out _ _ rfl (grows_refl _)
              · obtain ⟨⟨la, ha, hca⟩, h90, -, h87⟩ := hn
                have hal := all_any _ _ la lw w' ha (HEW.out.grows HE.out) (by have h1 := congrArg List.length hca; have h2 := HN40.out; have h3 := HEN.out; simp only [List.length_map] at h1; omega) (hca.trans HCW.out.symm)
                have hR9 := HR0.out
                simp only [h90, h87] at hR9
                go_wp2_with (go_at_call 33; refine (hal).mono ?_; rintro e w9 ⟨rfl, hg9⟩)
                exact hR9 _ _ rfl hg9
              · go_wp2_with fail
                exact HR.out _ _ rfl (grows_refl _)
              · go_wp2_with fail
                exact HR.out _ _ rfl (grows_refl _)
              · go_wp2_with (go_at_call 36; refine (HW.out _).mono ?_; rintro e w9 ⟨rfl, hg9⟩)
                exact HR.out _ _ rfl hg9
              · go_wp2_with fail
                exact HR.out _ _ rfl (grows_refl _)
              · go_wp2_with fail
                exact HR.out _ _ rfl (grows_refl _)
            · intro vals w9 hE hn
              have n4 := hn 16 4 rfl
              simp [gOf, SG.fix] at n4
              have HE := Lib.hid (BB.out.trans (((grows_trans _ _ _ G4.out hE : Grows wr w9) : Below _ _ _).mono BB.out.size))
              clear hn hE
              go_wp2_with fail
              go_ret
              exact ⟨congrArg Ending.returned n4, HE.out⟩
          · have hNp : 0 < N := Nat.pos_of_ne_zero hN
            obtain ⟨g, o, c', he, hcap, hg, hat⟩ := HEW.out.form HLW.out (Nat.pos_of_ne_zero hN)
            cases he
            have hcapi : (N : Int) ≤ (cpw : Int) := Int.ofNat_le.2 hcap
            have HGW := Lib.hid hg
            have HHAT := Lib.hid hat
            clear hat hg
            have hN0 := hNp
            rcases Nat.lt_or_eq_of_le hcap with hcc | hcc
            · have hcn : ¬ cpw = N := Nat.ne_of_gt hcc
              have hcn2 : ¬ N = cpw := Nat.ne_of_lt hcc

              go_wp2_with fail
              refine (HZ.out _).mono ?_
              rintro e w4 ⟨rfl, hg4⟩
              have G4 := Lib.hid (grows_trans _ _ _ G3.out (grows_trans _ _ _ (bl_alloc (Below.refl _ _) _ : Below w3.heap.size w3 _) hg4))
              clear hg4
              go_wp2_with fail
              refine WideN.wp_wide3 [.fix _ (.pointer (some ⟨b, 0, none⟩)), .fix _ (.int .i64 (f : Int)), sgE (c.drop f), .fix _ (.slice (some ⟨g, o, none⟩) N cpw), .fix _ (.int .i64 (N : Int)), sgE (c.drop f), .fix _ (.bool true), .fix _ (.bool true), .fix _ (.pointer (some ⟨b, 0, none⟩)), sgE c, .fix _ (.slice (some ⟨g, o, none⟩) N cpw), .fix _ (.bool true), .fix _ (.bool true), .fix _ (.bool true), .fix _ (.bool true), .fix _ (.bool true), .fix _ (.bool true)] ?_ (by kernel_rfl) (by kernel_rfl) rfl (fun vals => by simp [Act.over, dstsOf, overL]; rfl) ?_ ?_
              · refine ⟨?_, ?_, ?_, ?_, ?_, ?_, ?_, ?_, ?_, ?_, ?_, ?_, ?_, ?_, ?_, ?_, ?_, trivial⟩
                all_goals
                  intro vals w' hE hn R hR
                  simp [WideN.needsOf, Region.binds, dstAt, gOf, SG.fix, sgE] at hn hR
                  have HR0 := Lib.hid hR
                  try simp only [hn] at hR
                  have HR := Lib.hid hR
                  have HE := Lib.hid (grows_trans _ _ _ G4.out hE)
                  clear hR hE
                · go_wp2_with fail
                  exact HR.out _ _ rfl (grows_refl _)
                · go_wp2_with fail
                  exact HR.out _ _ rfl (grows_refl _)
                · go_wp2_with (go_at_call 42; refine (HSI.out _ HE.out).mono ?_; rintro e w9 ⟨v9, rfl, hg9, l9, ho9, hb9, hc9⟩)
                  exact HR.out _ _ l9 (eown_has ho9 hb9) hc9 hg9
                · go_wp2_with fail
                  exact HR.out _ _ rfl (grows_refl _)
                · go_wp2_with fail
                  exact HR.out _ _ rfl (grows_refl _)
                · go_wp2_with fail
                  all_goals exact HR.out _ _ [] ⟨.inl ⟨rfl, _, _, rfl⟩, fun x hx => by simp at hx⟩ (by symm; rw [show cores [] = [] from rfl, List.drop_eq_nil_iff, HEN.out]; exact HNF2.out) (grows_refl _)
                · obtain ⟨⟨la, ha, hca⟩, ⟨lb, hb, hcb⟩, -⟩ := hn
                  have hal := all_any _ _ la lb w' ha hb (by have h1 := congrArg List.length hca; have h2 := HN40.out; have h3 := HEN.out; simp only [List.length_map, List.length_drop] at h1; omega) (hca.trans hcb.symm)
                  go_wp2_with (go_at_call 33; refine (hal).mono ?_; rintro e w9 ⟨rfl, hg9⟩)
                  exact HR0.out _ _ rfl hg9
                · go_wp2_with fail
                  exact HR.out _ _ rfl (grows_refl _)
                · go_wp2_with fail
                  exact HR.out _ _ rfl (grows_refl _)
                · obtain ⟨h88, h87⟩ := hn
                  go_wp2_with (go_at_call 42; refine (HSI0.out _ HE.out).mono ?_; rintro e w9 ⟨v9, rfl, hg9, l9, ho9, hb9, hc9⟩)
                  exact HR.out _ _ l9 (eown_has ho9 hb9) (by simpa using hc9) hg9
                · go_wp2_with fail
                  exact HR.out _ _ rfl (grows_refl _)
                · obtain ⟨⟨la, ha, hca⟩, h90, -, h87⟩ := hn
                  have hal := all_any _ _ la lw w' ha (HEW.out.grows HE.out) (by have h1 := congrArg List.length hca; have h2 := HN40.out; have h3 := HEN.out; simp only [List.length_map] at h1; omega) (hca.trans HCW.out.symm)
                  have hR9 := HR0.out
                  simp only [h90, h87] at hR9
                  go_wp2_with (go_at_call 33; refine (hal).mono ?_; rintro e w9 ⟨rfl, hg9⟩)
                  exact hR9 _ _ rfl hg9
                · go_wp2_with fail
                  exact HR.out _ _ rfl (grows_refl _)
                · go_wp2_with fail
                  exact HR.out _ _ rfl (grows_refl _)
                · go_wp2_with (go_at_call 36; refine (HW.out _).mono ?_; rintro e w9 ⟨rfl, hg9⟩)
                  exact HR.out _ _ rfl hg9
                · go_wp2_with fail
                  exact HR.out _ _ rfl (grows_refl _)
                · go_wp2_with fail
                  exact HR.out _ _ rfl (grows_refl _)
              · intro vals w9 hE hn
                have n4 := hn 16 4 rfl
                simp [gOf, SG.fix] at n4
                have HE := Lib.hid (BB.out.trans (((grows_trans _ _ _ G4.out hE : Grows wr w9) : Below _ _ _).mono BB.out.size))
                clear hn hE
                go_wp2_with fail
                go_ret
                exact ⟨congrArg Ending.returned n4, HE.out⟩
            · subst hcc

              go_wp2_with fail
              refine (HZ.out _).mono ?_
              rintro e w4 ⟨rfl, hg4⟩
              have G4 := Lib.hid (grows_trans _ _ _ G3.out (grows_trans _ _ _ (bl_alloc (Below.refl _ _) _ : Below w3.heap.size w3 _) hg4))
              clear hg4
              go_wp2_with fail
              refine WideN.wp_wide3 [.fix _ (.pointer (some ⟨b, 0, none⟩)), .fix _ (.int .i64 (f : Int)), sgE (c.drop f), .fix _ (.slice (some ⟨g, o, none⟩) N N), .fix _ (.int .i64 (N : Int)), sgE (c.drop f), .fix _ (.bool true), .fix _ (.bool true), .fix _ (.pointer (some ⟨b, 0, none⟩)), sgE c, .fix _ (.slice (some ⟨g, o, none⟩) N N), .fix _ (.bool true), .fix _ (.bool true), .fix _ (.bool true), .fix _ (.bool true), .fix _ (.bool true), .fix _ (.bool true)] ?_ (by kernel_rfl) (by kernel_rfl) rfl (fun vals => by simp [Act.over, dstsOf, overL]; rfl) ?_ ?_
              · refine ⟨?_, ?_, ?_, ?_, ?_, ?_, ?_, ?_, ?_, ?_, ?_, ?_, ?_, ?_, ?_, ?_, ?_, trivial⟩
                all_goals
                  intro vals w' hE hn R hR
                  simp [WideN.needsOf, Region.binds, dstAt, gOf, SG.fix, sgE] at hn hR
                  have HR0 := Lib.hid hR
                  try simp only [hn] at hR
                  have HR := Lib.hid hR
                  have HE := Lib.hid (grows_trans _ _ _ G4.out hE)
                  clear hR hE
                · go_wp2_with fail
                  exact HR.out _ _ rfl (grows_refl _)
                · go_wp2_with fail
                  exact HR.out _ _ rfl (grows_refl _)
                · go_wp2_with (go_at_call 42; refine (HSI.out _ HE.out).mono ?_; rintro e w9 ⟨v9, rfl, hg9, l9, ho9, hb9, hc9⟩)
                  exact HR.out _ _ l9 (eown_has ho9 hb9) hc9 hg9
                · go_wp2_with fail
                  exact HR.out _ _ rfl (grows_refl _)
                · go_wp2_with fail
                  exact HR.out _ _ rfl (grows_refl _)
                · go_wp2_with fail
                  all_goals exact HR.out _ _ [] ⟨.inl ⟨rfl, _, _, rfl⟩, fun x hx => by simp at hx⟩ (by symm; rw [show cores [] = [] from rfl, List.drop_eq_nil_iff, HEN.out]; exact HNF2.out) (grows_refl _)
                · obtain ⟨⟨la, ha, hca⟩, ⟨lb, hb, hcb⟩, -⟩ := hn
                  have hal := all_any _ _ la lb w' ha hb (by have h1 := congrArg List.length hca; have h2 := HN40.out; have h3 := HEN.out; simp only [List.length_map, List.length_drop] at h1; omega) (hca.trans hcb.symm)
                  go_wp2_with (go_at_call 33; refine (hal).mono ?_; rintro e w9 ⟨rfl, hg9⟩)
                  exact HR0.out _ _ rfl hg9
                · go_wp2_with fail
                  exact HR.out _ _ rfl (grows_refl _)
                · go_wp2_with fail
                  exact HR.out _ _ rfl (grows_refl _)
                · obtain ⟨h88, h87⟩ := hn
                  go_wp2_with (go_at_call 42; refine (HSI0.out _ HE.out).mono ?_; rintro e w9 ⟨v9, rfl, hg9, l9, ho9, hb9, hc9⟩)
                  exact HR.out _ _ l9 (eown_has ho9 hb9) (by simpa using hc9) hg9
                · go_wp2_with fail
                  exact HR.out _ _ rfl (grows_refl _)
                · obtain ⟨⟨la, ha, hca⟩, h90, -, h87⟩ := hn
                  have hal := all_any _ _ la lw w' ha (HEW.out.grows HE.out) (by have h1 := congrArg List.length hca; have h2 := HN40.out; have h3 := HEN.out; simp only [List.length_map] at h1; omega) (hca.trans HCW.out.symm)
                  have hR9 := HR0.out
                  simp only [h90, h87] at hR9
                  go_wp2_with (go_at_call 33; refine (hal).mono ?_; rintro e w9 ⟨rfl, hg9⟩)
                  exact hR9 _ _ rfl hg9
                · go_wp2_with fail
                  exact HR.out _ _ rfl (grows_refl _)
                · go_wp2_with fail
                  exact HR.out _ _ rfl (grows_refl _)
                · go_wp2_with (go_at_call 36; refine (HW.out _).mono ?_; rintro e w9 ⟨rfl, hg9⟩)
                  exact HR.out _ _ rfl hg9
                · go_wp2_with fail
                  exact HR.out _ _ rfl (grows_refl _)
                · go_wp2_with fail
                  exact HR.out _ _ rfl (grows_refl _)
              · intro vals w9 hE hn
                have n4 := hn 16 4 rfl
                simp [gOf, SG.fix] at n4
                have HE := Lib.hid (BB.out.trans (((grows_trans _ _ _ G4.out hE : Grows wr w9) : Below _ _ _).mono BB.out.size))
                clear hn hE
                go_wp2_with fail
                go_ret
                exact ⟨congrArg Ending.returned n4, HE.out⟩
        · subst hNf

          have HAT := Lib.hid (lat_high wr HS.out.log _ hi0 (by rw [HLL.out]; exact Int.ofNat_le.2 (Nat.le_refl N)))
          have HNF2 := Lib.hid (Nat.le_refl N)
          clear ef

          go_wp2_with fail
          refine (HAT.out).mono ?_
          rintro e w3 ⟨rfl, hg3⟩
          have G3 := Lib.hid hg3
          clear hg3
          by_cases hN : N = 0
          · subst hN
            have HC0 : Hid (c = []) := Lib.hid (List.eq_nil_of_length_eq_zero HEN.out)
            have he := HNIL.out HC0.out
            cases he

            go_wp2_with fail
            refine (HZ.out _).mono ?_
            rintro e w4 ⟨rfl, hg4⟩
            have G4 := Lib.hid (grows_trans _ _ _ G3.out (grows_trans _ _ _ (bl_alloc (Below.refl _ _) _ : Below w3.heap.size w3 _) hg4))
            clear hg4
            go_wp2_with fail
            refine WideN.wp_wide3 [.fix _ (.pointer (some ⟨b, 0, none⟩)), .fix _ (.int .i64 ((0 : Nat) : Int)), sgE (c.drop 0), .fix _ (.slice none 0 0), .fix _ (.int .i64 0), sgE (c.drop 0), .fix _ (.bool true), .fix _ (.bool true), .fix _ (.pointer (some ⟨b, 0, none⟩)), sgE c, .fix _ (.slice none 0 0), .fix _ (.bool true), .fix _ (.bool true), .fix _ (.bool true), .fix _ (.bool true), .fix _ (.bool true), .fix _ (.bool true)] ?_ (by kernel_rfl) (by kernel_rfl) rfl (fun vals => by simp [Act.over, dstsOf, overL]; rfl) ?_ ?_
            · refine ⟨?_, ?_, ?_, ?_, ?_, ?_, ?_, ?_, ?_, ?_, ?_, ?_, ?_, ?_, ?_, ?_, ?_, trivial⟩
              all_goals
                intro vals w' hE hn R hR
                simp [WideN.needsOf, Region.binds, dstAt, gOf, SG.fix, sgE] at hn hR
                have HR0 := Lib.hid hR
                try simp only [hn] at hR
                have HR := Lib.hid hR
                have HE := Lib.hid (grows_trans _ _ _ G4.out hE)
                clear hR hE
              · go_wp2_with fail
                exact HR.out _ _ rfl (grows_refl _)
              · go_wp2_with fail
                exact HR.out _ _ rfl (grows_refl _)
              · go_wp2_with (go_at_call 42; refine (HSI.out _ HE.out).mono ?_; rintro e w9 ⟨v9, rfl, hg9, l9, ho9, hb9, hc9⟩)
                exact HR.out _ _ l9 (eown_has ho9 hb9) hc9 hg9
              · go_wp2_with fail
                exact HR.out _ _ rfl (grows_refl _)
              · go_wp2_with fail
                exact HR.out _ _ rfl (grows_refl _)
              · go_wp2_with fail
                exact HR.out _ _ [] ⟨.inl ⟨rfl, _, _, rfl⟩, fun x hx => by simp at hx⟩ (by rw [HC0.out]; simp) (grows_refl _)
              · obtain ⟨⟨la, ha, hca⟩, ⟨lb, hb, hcb⟩, -⟩ := hn
                have hal := all_any _ _ la lb w' ha hb (by have h1 := congrArg List.length hca; have h2 := HN40.out; have h3 := HEN.out; simp only [List.length_map, List.length_drop] at h1; omega) (hca.trans hcb.symm)
                go_wp2_with (go_at_call 33; refine (hal).mono ?_; rintro e w9 ⟨rfl, hg9⟩)
                exact HR0.out _ _ rfl hg9
              · go_wp2_with fail
                exact HR.out _ _ rfl (grows_refl _)
              · go_wp2_with fail
                exact HR.out _ _ rfl (grows_refl _)
              · obtain ⟨h88, h87⟩ := hn
                go_wp2_with (go_at_call 42; refine (HSI0.out _ HE.out).mono ?_; rintro e w9 ⟨v9, rfl, hg9, l9, ho9, hb9, hc9⟩)
                exact HR.out _ _ l9 (eown_has ho9 hb9) (by simpa using hc9) hg9
              · go_wp2_with fail
                exact HR.out _ _ rfl (grows_refl _)
              · obtain ⟨⟨la, ha, hca⟩, h90, -, h87⟩ := hn
                have hal := all_any _ _ la lw w' ha (HEW.out.grows HE.out) (by have h1 := congrArg List.length hca; have h2 := HN40.out; have h3 := HEN.out; simp only [List.length_map] at h1; omega) (hca.trans HCW.out.symm)
                have hR9 := HR0.out
                simp only [h90, h87] at hR9
                go_wp2_with (go_at_call 33; refine (hal).mono ?_; rintro e w9 ⟨rfl, hg9⟩)
                exact hR9 _ _ rfl hg9
              · go_wp2_with fail
                exact HR.out _ _ rfl (grows_refl _)
              · go_wp2_with fail
                exact HR.out _ _ rfl (grows_refl _)
              · go_wp2_with (go_at_call 36; refine (HW.out _).mono ?_; rintro e w9 ⟨rfl, hg9⟩)
                exact HR.out _ _ rfl hg9
              · go_wp2_with fail
                exact HR.out _ _ rfl (grows_refl _)
              · go_wp2_with fail
                exact HR.out _ _ rfl (grows_refl _)
            · intro vals w9 hE hn
              have n4 := hn 16 4 rfl
              simp [gOf, SG.fix] at n4
              have HE := Lib.hid (BB.out.trans (((grows_trans _ _ _ G4.out hE : Grows wr w9) : Below _ _ _).mono BB.out.size))
              clear hn hE
              go_wp2_with fail
              go_ret
              exact ⟨congrArg Ending.returned n4, HE.out⟩
          · have hNp : 0 < N := Nat.pos_of_ne_zero hN
            have hfp : (0 : Int) < (N : Int) := Int.ofNat_lt.2 hNp
            obtain ⟨g, o, c', he, hcap, hg, hat⟩ := HEW.out.form HLW.out (Nat.pos_of_ne_zero hN)
            cases he
            have hcapi : (N : Int) ≤ (cpw : Int) := Int.ofNat_le.2 hcap
            have HGW := Lib.hid hg
            have HHAT := Lib.hid hat
            clear hat hg
            have hN0 := hNp
            rcases Nat.lt_or_eq_of_le hcap with hcc | hcc
            · have hcn : ¬ cpw = N := Nat.ne_of_gt hcc
              have hcn2 : ¬ N = cpw := Nat.ne_of_lt hcc

              go_wp2_with fail
              refine (HZ.out _).mono ?_
              rintro e w4 ⟨rfl, hg4⟩
              have G4 := Lib.hid (grows_trans _ _ _ G3.out (grows_trans _ _ _ (bl_alloc (Below.refl _ _) _ : Below w3.heap.size w3 _) hg4))
              clear hg4
              go_wp2_with fail
              refine WideN.wp_wide3 [.fix _ (.pointer (some ⟨b, 0, none⟩)), .fix _ (.int .i64 (N : Int)), sgE (c.drop N), .fix _ (.slice (some ⟨g, o, none⟩) N cpw), .fix _ (.int .i64 (N : Int)), sgE (c.drop N), .fix _ (.bool true), .fix _ (.bool true), .fix _ (.pointer (some ⟨b, 0, none⟩)), sgE c, .fix _ (.slice (some ⟨g, o, none⟩) N cpw), .fix _ (.bool true), .fix _ (.bool true), .fix _ (.bool true), .fix _ (.bool true), .fix _ (.bool true), .fix _ (.bool true)] ?_ (by kernel_rfl) (by kernel_rfl) rfl (fun vals => by simp [Act.over, dstsOf, overL]; rfl) ?_ ?_
              · refine ⟨?_, ?_, ?_, ?_, ?_, ?_, ?_, ?_, ?_, ?_, ?_, ?_, ?_, ?_, ?_, ?_, ?_, trivial⟩
                all_goals
                  intro vals w' hE hn R hR
                  simp [WideN.needsOf, Region.binds, dstAt, gOf, SG.fix, sgE] at hn hR
                  have HR0 := Lib.hid hR
                  try simp only [hn] at hR
                  have HR := Lib.hid hR
                  have HE := Lib.hid (grows_trans _ _ _ G4.out hE)
                  clear hR hE
                · go_wp2_with fail
                  exact HR.out _ _ rfl (grows_refl _)
                · go_wp2_with fail
                  exact HR.out _ _ rfl (grows_refl _)
                · go_wp2_with (go_at_call 42; refine (HSI.out _ HE.out).mono ?_; rintro e w9 ⟨v9, rfl, hg9, l9, ho9, hb9, hc9⟩)
                  exact HR.out _ _ l9 (eown_has ho9 hb9) hc9 hg9
                · go_wp2_with fail
                  exact HR.out _ _ rfl (grows_refl _)
                · go_wp2_with fail
                  exact HR.out _ _ rfl (grows_refl _)
                · go_wp2_with fail
                  all_goals exact HR.out _ _ [] ⟨.inl ⟨rfl, _, _, rfl⟩, fun x hx => by simp at hx⟩ (by symm; rw [show cores [] = [] from rfl, List.drop_eq_nil_iff, HEN.out]; exact HNF2.out) (grows_refl _)
                · obtain ⟨⟨la, ha, hca⟩, ⟨lb, hb, hcb⟩, -⟩ := hn
                  have hal := all_any _ _ la lb w' ha hb (by have h1 := congrArg List.length hca; have h2 := HN40.out; have h3 := HEN.out; simp only [List.length_map, List.length_drop] at h1; omega) (hca.trans hcb.symm)
                  go_wp2_with (go_at_call 33; refine (hal).mono ?_; rintro e w9 ⟨rfl, hg9⟩)
                  exact HR0.out _ _ rfl hg9
                · go_wp2_with fail
                  exact HR.out _ _ rfl (grows_refl _)
                · go_wp2_with fail
                  exact HR.out _ _ rfl (grows_refl _)
                · obtain ⟨h88, h87⟩ := hn
                  go_wp2_with (go_at_call 42; refine (HSI0.out _ HE.out).mono ?_; rintro e w9 ⟨v9, rfl, hg9, l9, ho9, hb9, hc9⟩)
                  exact HR.out _ _ l9 (eown_has ho9 hb9) (by simpa using hc9) hg9
                · go_wp2_with fail
                  exact HR.out _ _ rfl (grows_refl _)
                · obtain ⟨⟨la, ha, hca⟩, h90, -, h87⟩ := hn
                  have hal := all_any _ _ la lw w' ha (HEW.out.grows HE.out) (by have h1 := congrArg List.length hca; have h2 := HN40.out; have h3 := HEN.out; simp only [List.length_map] at h1; omega) (hca.trans HCW.out.symm)
                  have hR9 := HR0.out
                  simp only [h90, h87] at hR9
                  go_wp2_with (go_at_call 33; refine (hal).mono ?_; rintro e w9 ⟨rfl, hg9⟩)
                  exact hR9 _ _ rfl hg9
                · go_wp2_with fail
                  exact HR.out _ _ rfl (grows_refl _)
                · go_wp2_with fail
                  exact HR.out _ _ rfl (grows_refl _)
                · go_wp2_with (go_at_call 36; refine (HW.out _).mono ?_; rintro e w9 ⟨rfl, hg9⟩)
                  exact HR.out _ _ rfl hg9
                · go_wp2_with fail
                  exact HR.out _ _ rfl (grows_refl _)
                · go_wp2_with fail
                  exact HR.out _ _ rfl (grows_refl _)
              · intro vals w9 hE hn
                have n4 := hn 16 4 rfl
                simp [gOf, SG.fix] at n4
                have HE := Lib.hid (BB.out.trans (((grows_trans _ _ _ G4.out hE : Grows wr w9) : Below _ _ _).mono BB.out.size))
                clear hn hE
                go_wp2_with fail
                go_ret
                exact ⟨congrArg Ending.returned n4, HE.out⟩
            · subst hcc

              go_wp2_with fail
              refine (HZ.out _).mono ?_
              rintro e w4 ⟨rfl, hg4⟩
              have G4 := Lib.hid (grows_trans _ _ _ G3.out (grows_trans _ _ _ (bl_alloc (Below.refl _ _) _ : Below w3.heap.size w3 _) hg4))
              clear hg4
              go_wp2_with fail
              refine WideN.wp_wide3 [.fix _ (.pointer (some ⟨b, 0, none⟩)), .fix _ (.int .i64 (N : Int)), sgE (c.drop N), .fix _ (.slice (some ⟨g, o, none⟩) N N), .fix _ (.int .i64 (N : Int)), sgE (c.drop N), .fix _ (.bool true), .fix _ (.bool true), .fix _ (.pointer (some ⟨b, 0, none⟩)), sgE c, .fix _ (.slice (some ⟨g, o, none⟩) N N), .fix _ (.bool true), .fix _ (.bool true), .fix _ (.bool true), .fix _ (.bool true), .fix _ (.bool true), .fix _ (.bool true)] ?_ (by kernel_rfl) (by kernel_rfl) rfl (fun vals => by simp [Act.over, dstsOf, overL]; rfl) ?_ ?_
              · refine ⟨?_, ?_, ?_, ?_, ?_, ?_, ?_, ?_, ?_, ?_, ?_, ?_, ?_, ?_, ?_, ?_, ?_, trivial⟩
                all_goals
                  intro vals w' hE hn R hR
                  simp [WideN.needsOf, Region.binds, dstAt, gOf, SG.fix, sgE] at hn hR
                  have HR0 := Lib.hid hR
                  try simp only [hn] at hR
                  have HR := Lib.hid hR
                  have HE := Lib.hid (grows_trans _ _ _ G4.out hE)
                  clear hR hE
                · go_wp2_with fail
                  exact HR.out _ _ rfl (grows_refl _)
                · go_wp2_with fail
                  exact HR.out _ _ rfl (grows_refl _)
                · go_wp2_with (go_at_call 42; refine (HSI.out _ HE.out).mono ?_; rintro e w9 ⟨v9, rfl, hg9, l9, ho9, hb9, hc9⟩)
                  exact HR.out _ _ l9 (eown_has ho9 hb9) hc9 hg9
                · go_wp2_with fail
                  exact HR.out _ _ rfl (grows_refl _)
                · go_wp2_with fail
                  exact HR.out _ _ rfl (grows_refl _)
                · go_wp2_with fail
                  all_goals exact HR.out _ _ [] ⟨.inl ⟨rfl, _, _, rfl⟩, fun x hx => by simp at hx⟩ (by symm; rw [show cores [] = [] from rfl, List.drop_eq_nil_iff, HEN.out]; exact HNF2.out) (grows_refl _)
                · obtain ⟨⟨la, ha, hca⟩, ⟨lb, hb, hcb⟩, -⟩ := hn
                  have hal := all_any _ _ la lb w' ha hb (by have h1 := congrArg List.length hca; have h2 := HN40.out; have h3 := HEN.out; simp only [List.length_map, List.length_drop] at h1; omega) (hca.trans hcb.symm)
                  go_wp2_with (go_at_call 33; refine (hal).mono ?_; rintro e w9 ⟨rfl, hg9⟩)
                  exact HR0.out _ _ rfl hg9
                · go_wp2_with fail
                  exact HR.out _ _ rfl (grows_refl _)
                · go_wp2_with fail
                  exact HR.out _ _ rfl (grows_refl _)
                · obtain ⟨h88, h87⟩ := hn
                  go_wp2_with (go_at_call 42; refine (HSI0.out _ HE.out).mono ?_; rintro e w9 ⟨v9, rfl, hg9, l9, ho9, hb9, hc9⟩)
                  exact HR.out _ _ l9 (eown_has ho9 hb9) (by simpa using hc9) hg9
                · go_wp2_with fail
                  exact HR.out _ _ rfl (grows_refl _)
                · obtain ⟨⟨la, ha, hca⟩, h90, -, h87⟩ := hn
                  have hal := all_any _ _ la lw w' ha (HEW.out.grows HE.out) (by have h1 := congrArg List.length hca; have h2 := HN40.out; have h3 := HEN.out; simp only [List.length_map] at h1; omega) (hca.trans HCW.out.symm)
                  have hR9 := HR0.out
                  simp only [h90, h87] at hR9
                  go_wp2_with (go_at_call 33; refine (hal).mono ?_; rintro e w9 ⟨rfl, hg9⟩)
                  exact hR9 _ _ rfl hg9
                · go_wp2_with fail
                  exact HR.out _ _ rfl (grows_refl _)
                · go_wp2_with fail
                  exact HR.out _ _ rfl (grows_refl _)
                · go_wp2_with (go_at_call 36; refine (HW.out _).mono ?_; rintro e w9 ⟨rfl, hg9⟩)
                  exact HR.out _ _ rfl hg9
                · go_wp2_with fail
                  exact HR.out _ _ rfl (grows_refl _)
                · go_wp2_with fail
                  exact HR.out _ _ rfl (grows_refl _)
              · intro vals w9 hE hn
                have n4 := hn 16 4 rfl
                simp [gOf, SG.fix] at n4
                have HE := Lib.hid (BB.out.trans (((grows_trans _ _ _ G4.out hE : Grows wr w9) : Below _ _ _).mono BB.out.size))
                clear hn hE
                go_wp2_with fail
                go_ret
                exact ⟨congrArg Ending.returned n4, HE.out⟩
        · have hfN : f < N := hNf
          have hfl : f < lw.length := by rw [HLW.out]; exact hfN
          have hfc : f < c.length := by rw [HEN.out]; exact hfN
          have hcx : (cores ll)[f]? = some c[f] := by rw [HS.out.eq]; exact List.getElem?_eq_getElem hfc
          obtain ⟨cx, ecx⟩ : ∃ cx, c[f] = cx := ⟨_, rfl⟩
          rw [ecx] at hcx
          have HAT := Lib.hid (lat_in wr HS.out.log HLM.out HSL.out f cx hcx)
          have hNp : 0 < N := Nat.lt_of_le_of_lt (Nat.zero_le _) hfN
          obtain ⟨g, o, c', he, hcap, hg, hat⟩ := HEW.out.form HLW.out hNp
          cases he
          have hcapi : (N : Int) ≤ (cpw : Int) := Int.ofNat_le.2 hcap
          have HGW := Lib.hid hg
          have HHAT := Lib.hid hat
          clear hat hg
          obtain ⟨q0, q1, q2, q3, q4⟩ := eat_cells HHAT.out f hfl
          obtain ⟨y, ey⟩ : ∃ y, lw[f] = y := ⟨_, rfl⟩
          rw [ey] at q0 q1 q2 q3 q4
          have hyc : y.core = cx := by
            have h1 : (cores lw)[f]? = some y.core := by rw [List.getElem?_map, List.getElem?_eq_getElem hfl, ey]; rfl
            rw [HCW.out, List.getElem?_eq_getElem hfc, ecx] at h1
            exact (Option.some.inj h1).symm
          have hyb := HEW.out.2 y (by rw [← ey]; exact List.getElem_mem _)
          have HYC := Lib.hid hyc
          have HYB := Lib.hid hyb
          have HFN := Lib.hid hfN
          have hfNi : (f : Int) < (N : Int) := Int.ofNat_lt.2 hfN
          have hf6 : f ≤ 1000000 := Nat.le_trans (Nat.le_of_lt hfN) (Nat.le_trans HN40.out (by decide))
          obtain ⟨j1, j2, j3, j4, j6⟩ := nat_facts f hf6
          have hmx : ¬ (f : Int) < 0 := Int.not_lt.2 (Int.natCast_nonneg f)
          clear ef hNf hfl hfc hcx ecx ey hyc hyb hf6
          go_wp2_with fail
          refine (HAT.out).mono ?_
          rintro e w3 ⟨ca, cl, cc, rfl, hbr3, hg3⟩
          have p0 := (hg3.cell (p := ⟨g, o + f * 5, none⟩) HGW.out).trans q0
          have p1 := (hg3.cell (p := ⟨g, o + f * 5 + 1, none⟩) HGW.out).trans q1
          have p2 := (hg3.cell (p := ⟨g, o + f * 5 + 2, none⟩) HGW.out).trans q2
          have p3 := (hg3.cell (p := ⟨g, o + f * 5 + 3, none⟩) HGW.out).trans q3
          have p4 := (hg3.cell (p := ⟨g, o + f * 5 + 4, none⟩) HGW.out).trans q4
          have hgw3 : g < w3.heap.size := Nat.lt_of_lt_of_le HGW.out hg3.size
          have hsm := fun W (hW : Grows w3 W) => rsame_any ⟨cx.1, cx.2.1, ca, cl, cc, cx.2.2⟩ y W ((brow_has (x := ⟨cx.1, cx.2.1, ca, cl, cc, cx.2.2⟩) hbr3).grows hW) ((HYB.out.grows hg3).grows hW)
          rw [sameE_of (by rw [← HYC.out]) (by rw [← HYC.out]) (by rw [← HYC.out])] at hsm
          have HSM := Lib.hid hsm
          have G3 := Lib.hid hg3
          clear hg3 hbr3 hsm q0 q1 q2 q3 q4
          go_wp2_with fail
          refine wp_region_tail_drewN 8 (by kernel_rfl) (by kernel_rfl) (by kernel_rfl) (by kernel_rfl) ?_
          simp only [List.take_succ_cons, List.take_zero, List.drop_succ_cons, List.drop_zero]
          repeat (first | go_big_quiet_step ((fail)) | quiet_step ((fail)))
          refine wpQuiet_nil ?_
          intro _ hcw1
          obtain ⟨nq, hcw2⟩ := hcw1
          subst hcw2
          go_wp2_with fail
          refine (HSM.out _ (bl_drewN (bl_alloc (Below.refl _ _) _) _)).mono ?_
          rintro e w4 ⟨rfl, hg4⟩
          have G4 := Lib.hid (grows_trans _ _ _ G3.out (grows_trans _ _ _ (bl_drewN (bl_alloc (Below.refl _ _) _) _ : Below w3.heap.size w3 _) hg4))
          clear hg4 p0 p1 p2 p3 p4
          go_wp2_with fail
          refine WideN.wp_wide3 [.fix _ (.pointer (some ⟨b, 0, none⟩)), .fix _ (.int .i64 (f : Int)), sgE (c.drop f), .fix _ (.slice (some ⟨g, o, none⟩) N cpw), .fix _ (.int .i64 (f : Int)), sgE (c.drop f), .fix _ (.bool true), .fix _ (.bool true), .fix _ (.pointer (some ⟨b, 0, none⟩)), sgE c, .fix _ (.slice (some ⟨g, o, none⟩) N cpw), .fix _ (.bool true), .fix _ (.bool true), .fix _ (.bool true), .fix _ (.bool true), .fix _ (.bool true), .fix _ (.bool true)] ?_ (by kernel_rfl) (by kernel_rfl) rfl (fun vals => by simp [Act.over, dstsOf, overL]; rfl) ?_ ?_
          · refine ⟨?_, ?_, ?_, ?_, ?_, ?_, ?_, ?_, ?_, ?_, ?_, ?_, ?_, ?_, ?_, ?_, ?_, trivial⟩
            all_goals
              intro vals w' hE hn R hR
              simp [WideN.needsOf, Region.binds, dstAt, gOf, SG.fix, sgE] at hn hR
              have HR0 := Lib.hid hR
              try simp only [hn] at hR
              have HR := Lib.hid hR
              have HE := Lib.hid (grows_trans _ _ _ G4.out hE)
              clear hR hE
            · go_wp2_with fail
              exact HR.out _ _ rfl (grows_refl _)
            · go_wp2_with fail
              exact HR.out _ _ rfl (grows_refl _)
            · go_wp2_with (go_at_call 42; refine (HSI.out _ HE.out).mono ?_; rintro e w9 ⟨v9, rfl, hg9, l9, ho9, hb9, hc9⟩)
              exact HR.out _ _ l9 (eown_has ho9 hb9) hc9 hg9
            · go_wp2_with fail
              exact HR.out _ _ rfl (grows_refl _)
            · go_wp2_with fail
              exact HR.out _ _ rfl (grows_refl _)
            · go_wp2_with fail
              exact HR.out _ _ (lw.drop f) (ehas_from (HEW.out.grows HE.out) HLW.out HFN.out) (by rw [← HCW.out]; simp) (grows_refl _)
            · obtain ⟨⟨la, ha, hca⟩, ⟨lb, hb, hcb⟩, -⟩ := hn
              have hal := all_any _ _ la lb w' ha hb (by have h1 := congrArg List.length hca; have h2 := HN40.out; have h3 := HEN.out; simp only [List.length_map, List.length_drop] at h1; omega) (hca.trans hcb.symm)
              go_wp2_with (go_at_call 33; refine (hal).mono ?_; rintro e w9 ⟨rfl, hg9⟩)
              exact HR0.out _ _ rfl hg9
            · go_wp2_with fail
              exact HR.out _ _ rfl (grows_refl _)
            · go_wp2_with fail
              exact HR.out _ _ rfl (grows_refl _)
            · obtain ⟨h88, h87⟩ := hn
              go_wp2_with (go_at_call 42; refine (HSI0.out _ HE.out).mono ?_; rintro e w9 ⟨v9, rfl, hg9, l9, ho9, hb9, hc9⟩)
              exact HR.out _ _ l9 (eown_has ho9 hb9) (by simpa using hc9) hg9
            · go_wp2_with fail
              exact HR.out _ _ rfl (grows_refl _)
            · obtain ⟨⟨la, ha, hca⟩, h90, -, h87⟩ := hn
              have hal := all_any _ _ la lw w' ha (HEW.out.grows HE.out) (by have h1 := congrArg List.length hca; have h2 := HN40.out; have h3 := HEN.out; simp only [List.length_map] at h1; omega) (hca.trans HCW.out.symm)
              have hR9 := HR0.out
              simp only [h90, h87] at hR9
              go_wp2_with (go_at_call 33; refine (hal).mono ?_; rintro e w9 ⟨rfl, hg9⟩)
              exact hR9 _ _ rfl hg9
            · go_wp2_with fail
              exact HR.out _ _ rfl (grows_refl _)
            · go_wp2_with fail
              exact HR.out _ _ rfl (grows_refl _)
            · go_wp2_with (go_at_call 36; refine (HW.out _).mono ?_; rintro e w9 ⟨rfl, hg9⟩)
              exact HR.out _ _ rfl hg9
            · go_wp2_with fail
              exact HR.out _ _ rfl (grows_refl _)
            · go_wp2_with fail
              exact HR.out _ _ rfl (grows_refl _)
          · intro vals w9 hE hn
            have n4 := hn 16 4 rfl
            simp [gOf, SG.fix] at n4
            have HE := Lib.hid (BB.out.trans (((grows_trans _ _ _ G4.out hE : Grows wr w9) : Below _ _ _).mono BB.out.size))
            clear hn hE
            go_wp2_with fail
            go_ret
            exact ⟨congrArg Ending.returned n4, HE.out⟩
end Go.Proofs.Ytkihhdoejpjbbaa
