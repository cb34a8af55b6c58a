/- Views: the document's At, Spans, Came, Went. -/
import Derived.Test.YtkihhdoejpjbbaaViewD
import Derived.Test.YtkihhdoejpjbbaaViewE
import Derived.Test.YtkihhdoejpjbbaaSetsW
namespace Go.Proofs.Ytkihhdoejpjbbaa
open Go.RowKit Go.Sort
set_option maxHeartbeats 2000000
set_option maxRecDepth 100000

/-- The slice v holds the views l. -/
def VHas (w : World) (v : Value) (l : List VW) : Prop := (l = [] ∧ ∃ a cap, v = .slice a 0 cap) ∨ ∃ g o cap, v = .slice (some ⟨g, o, none⟩) l.length cap ∧ g < w.heap.size ∧ RAt vv 3 w g o l
theorem VHas.grows {w w' : World} {v : Value} {l : List VW} (h : VHas w v l) (hg : Grows w w') : VHas w' v l := by
  rcases h with h | ⟨g, o, cap, h1, h2, h3⟩
  · exact .inl h
  · exact .inr ⟨g, o, cap, h1, Nat.lt_of_lt_of_le h2 hg.size, h3.grows hg h2⟩
theorem vown_has {w : World} {base : Nat} {v : Value} {l : List VW} (h : VOwn w base v l) : VHas w v l := by
  rcases own_rows (f := vv) (k := 3) (fun _ => rfl) rfl h with ⟨rfl, rfl⟩ | ⟨g, cap, rfl, _, _, hg, hat⟩
  · exact .inl ⟨rfl, none, 0, rfl⟩
  · exact .inr ⟨g, 0, cap, rfl, hg, hat⟩
theorem VHas.len {w : World} {v : Value} {l : List VW} (h : VHas w v l) : ∃ a cap, v = .slice a l.length cap := by
  rcases h with ⟨rfl, a, cap, rfl⟩ | ⟨g, o, cap, rfl, _, _⟩
  · exact ⟨a, cap, rfl⟩
  · exact ⟨_, cap, rfl⟩
theorem vat_cells {w : World} {g o : Nat} {l : List VW} (h : RAt vv 3 w g o l) (i : Nat) (hi : i < l.length) : w.cell? ⟨g, o + i * 3, none⟩ = some (.int .i64 l[i].no) ∧ w.cell? ⟨g, o + i * 3 + 1, none⟩ = some (.int .i64 l[i].tm) ∧ w.cell? ⟨g, o + i * 3 + 2, none⟩ = some (.int .u64 (l[i].set : Int)) :=
  ⟨h i hi 0 (by omega), h i hi 1 (by omega), h i hi 2 (by omega)⟩

/-- Where the last view stands whose time is not above t. -/
def atTo (l : List VW) (t : Int) : Nat → Int
  | 0 => -1
  | k + 1 => if (l.getD k ⟨0, 0, 0⟩).tm ≤ t then (k : Int) else atTo l t k
def atN (l : List VW) (t : Int) : Int := atTo l t l.length
theorem rat_any (v : Value) (l : List VW) (t : Int) (w : World) (h : VHas w v l) (hm : l.length ≤ 1000000) :
    Calls Try.prog 38 #[v, .int .i64 t] w (fun e w' => e = .returned (.int .i64 (atN l t)) ∧ w = w') := by
  rcases h with ⟨rfl, a, cap, rfl⟩ | ⟨g, o, cap, rfl, hg, hc⟩
  · go_enter Try.func38, Try.ntmps38
    go_wp2_with fail
    go_loop [5, 6] (fun a k => a = .int .i64 (-1) ∧ k = .int .i64 0) (fun _ _ => 0)
    case atStart => exact ⟨rfl, rfl⟩
    case round =>
      obtain ⟨rfl, rfl⟩ := hrel
      go_wp2_with fail
      go_ret
      exact ⟨rfl, rfl⟩
  · have hfin : atN l t = atTo l t l.length := rfl
    obtain ⟨n, en⟩ : ∃ n, l.length = n := ⟨_, rfl⟩
    rw [en] at hm hfin ⊢
    have HC := Lib.hid hc
    have EN := Lib.hid en
    have HF := Lib.hid hfin
    clear hc en hfin
    go_enter Try.func38, Try.ntmps38
    go_wp2_with fail
    go_loop [5, 6] (fun a kv => ∃ k : Nat, kv = .int .i64 (k : Int) ∧ k ≤ n ∧ a = .int .i64 (atTo l t k)) (fun _ kv => n - (intOf kv).toNat)
    case atStart => exact ⟨0, rfl, Nat.zero_le _, rfl⟩
    case round =>
      obtain ⟨k, rfl, hk, rfl⟩ := hrel
      by_cases hlt : k < n
      · have hkl : k < l.length := by rw [EN.out]; exact hlt
        obtain ⟨-, c1, -⟩ := vat_cells HC.out k hkl
        have hst : atTo l t (k + 1) = if (l.getD k ⟨0, 0, 0⟩).tm ≤ t then (k : Int) else atTo l t k := rfl
        rw [List.getD_eq_getElem?_getD, List.getElem?_eq_getElem hkl, Option.getD_some] at hst
        obtain ⟨x, ex⟩ : ∃ x, l[k] = x := ⟨_, rfl⟩
        rw [ex] at c1 hst
        have HS := Lib.hid hst
        clear hst ex
        by_cases hle : x.tm ≤ t
        · go_wp2_with fail
          go_round
          case rel => exact ⟨k + 1, by go_num, by omega, by rw [HS.out, if_pos hle]⟩
          case measure => simp [intOf]; omega
        · go_wp2_with fail
          go_round
          case rel => exact ⟨k + 1, by go_num, by omega, by rw [HS.out, if_neg hle]⟩
          case measure => simp [intOf]; omega
      · obtain rfl : k = n := by omega
        go_wp2_with fail
        go_ret
        exact ⟨by rw [HF.out]; rfl, rfl⟩

theorem pown_empty (w : World) : POwn (w.alloc (.cells #[] 43)) w.heap.size (.slice (some ⟨w.heap.size, 0, none⟩) 0 0) [] := World.ownsRow_lit w #[] 0 (Nat.le_refl _) (by decide) rfl

theorem rspans_any (vl : Value) (l : List VW) (i : Int) (w : World) (h : VHas w vl l) (hm : l.length ≤ 1000000) (hok : AllOk l) :
    Calls Try.prog 21 #[vl, .int .i64 i] w (fun e w' => ∃ v', e = .returned v' ∧ Grows w w' ∧ POwn w' w.heap.size v' (spansN i l)) := by
  obtain ⟨i0, hi, hz0, hz1, hz2⟩ := info_parts Try.infoPair
  rcases h with ⟨rfl, a, cap, rfl⟩ | ⟨g, o, cap, rfl, hgb, hat⟩
  · go_enter Try.func21, Try.ntmps21
    go_wp2_with fail
    go_loopw [5, 7] (fun v k wr => v = .slice (some ⟨w.heap.size, 0, none⟩) 0 0 ∧ k = .int .i64 0 ∧ wr = w.alloc (.cells #[] 43)) (fun _ _ _ => 0)
    case atStart => exact ⟨rfl, rfl, rfl⟩
    case round =>
      obtain ⟨rfl, rfl, rfl⟩ := hrel
      go_wp2_with fail
      go_ret
      exact ⟨_, rfl, bl_alloc (Below.refl _ _) _, pown_empty w⟩
  · obtain ⟨n, en⟩ : ∃ n, l.length = n := ⟨_, rfl⟩
    have HAT := Lib.hid hat
    have HOK := Lib.hid hok
    rw [en] at hm ⊢
    clear hat hok
    go_enter Try.func21, Try.ntmps21
    go_wp2_with fail
    go_loopw [5, 6, 7] (fun v inn k wr => SpRel i l w v inn k wr) (fun _ _ k _ => n - (intOf k).toNat)
    case atStart => exact ⟨0, [], false, rfl, Nat.zero_le _, rfl, rfl, bl_alloc (Below.refl _ _) _, pown_empty w⟩
    case round =>
      obtain ⟨j, out, inb, rfl, hj, rfl, hf, hgr, hown⟩ := hrel
      rw [en] at hj
      by_cases hlt : j < n
      · have hlt2 : j < l.length := by omega
        have hinv := spFold_inv i (l.take j)
        have hstep := spFold_take i l j hlt2
        rw [hf] at hinv hstep
        simp only [List.length_take] at hinv
        obtain ⟨c0, c1, c2⟩ := vat_cells (HAT.out.grows hgr hgb) j hlt2
        have hx := HOK.out _ (List.getElem_mem hlt2)
        obtain ⟨x, ex⟩ : ∃ x, l[j] = x := ⟨_, rfl⟩
        rw [ex] at c0 c1 c2 hx hstep
        have hcl := fun W => rhas_any x.set i hx.2.2 W
        have hwb : g < wr.heap.size := Nat.lt_of_lt_of_le hgb hgr.size
        unfold spStep at hstep
        simp only at hstep
        obtain ⟨bb, eb⟩ : ∃ bb, hasN x.set i = bb := ⟨_, rfl⟩
        rw [eb] at hstep hcl
        have HCL := Lib.hid hcl
        have HO := Lib.hid hown
        have HGR := Lib.hid hgr
        have HSTEP := Lib.hid hstep
        have HINV := Lib.hid hinv
        have i1 : (0 : Int) ≤ (j : Int) := by omega
        have i2 : (j : Int) < (n : Int) := by omega
        clear hcl hown hgr hstep hinv ex eb hf hx
        cases bb
        · cases inb
          · go_wp2_with (go_at_call 28; refine (HCL.out _).mono ?_; rintro e w' ⟨rfl, rfl⟩)
            go_roundw
            case rel => exact ⟨j + 1, out, false, by go_num, by omega, rfl, HSTEP.out, HGR.out, HO.out⟩
            case measure => simp [intOf]; omega
          · have hne := (HINV.out).1 rfl
            obtain ⟨m, em⟩ : ∃ m, out.length = m + 1 := ⟨out.length - 1, by have := List.length_pos_iff.2 hne; omega⟩
            rcases own_rows (f := p2) (k := 2) (fun _ => rfl) rfl HO.out with ⟨h1, -⟩ | ⟨go, capo, rfl, hcapo, hgo1, hgo2, hato⟩
            · exact absurd h1 hne
            have hse := set_end hne x.tm
            rw [em] at hse
            simp only [Nat.add_sub_cancel] at hse
            have hfz : wr.frozen? ⟨go, m * 2 + 1, none⟩ = false := (HO.out).frozenAt _
            have hcell := hato m (by omega) 1 (by omega)
            obtain ⟨q, hq⟩ : ∃ q, (p2 (out[m]'(by omega)))[1]? = some q := ⟨_, rfl⟩
            rw [hq, Nat.zero_add] at hcell
            have hst := (HO.out).stored (m * 2 + 1) (.int .i64 x.tm)
            rw [hse] at hst
            have HST := Lib.hid hst
            clear hst hse hq hato hne
            have HEM := Lib.hid em
            rw [em]
            have j1 : ((m : Int) + 1) - 1 = (m : Int) := by omega
            have j2 : (0 : Int) ≤ (m : Int) := by omega
            have j3 : (m : Int) < (m : Int) + 1 := by omega
            have j4 : wrap64 (m : Int) = (m : Int) := by have := (HINV.out).2; rw [← wrapEq]; exact IntWalk.i64_in _ (by omega)
            clear em
            go_wp2_with (go_at_call 28; refine (HCL.out _).mono ?_; rintro e w' ⟨rfl, rfl⟩)
            refine wp_region_tail_drewN 11 (by kernel_rfl) (by kernel_rfl) (by kernel_rfl) (by kernel_rfl) ?_
            simp only [List.take_succ_cons, List.take_zero, List.drop_succ_cons, List.drop_zero]
            repeat (first | go_big_quiet_step ((fail)) | quiet_step ((fail)))
            refine wpQuiet_nil ?_
            intro _ hcw1
            obtain ⟨nq, hcw2⟩ := hcw1
            subst hcw2
            go_wp2_with fail
            go_roundw
            case rel =>
              refine ⟨j + 1, setEnd out x.tm, false, by go_num, by omega, rfl, HSTEP.out, ?_, ?_⟩
              · exact bl_set (p := ⟨go, m * 2 + 1, none⟩) (bl_drewN HGR.out _) hgo1 _
              · show World.ownsRow _ _ _ _ _ _ _
                rw [setEnd_length, HEM.out]
                have := (HST.out).1
                rw [HEM.out] at this
                exact this
            case measure => simp [intOf]; omega
        · cases inb
          · go_wp2_with (first | (go_at_call 28; refine (HCL.out _).mono ?_; rintro e w' ⟨rfl, rfl⟩) | (at_builtin; refine wpList_append_own _ rfl _ _ 37 rfl w.heap.size 43 i0 _ 2 16 Try.underlying37 hi hz0 hz1 hz2 rfl (by decide) _ out.length (out.flatMap p2) rfl (HO.out.alloc _) ⟨wr.heap.size, 0, none⟩ 1 1 (p2 (x.tm, -1)) rfl rfl ?c1 ?c2 ?c3 ?c4 ?c5 ?_))
            case c1 => exact World.news_of_block (heap_alloc_new wr (.cells #[.int .i64 x.tm, .int .i64 (-1)] 43))
            case c2 => exact p2_one _
            case c3 => have := (HINV.out).2; unfold maxLen; omega
            case c4 => have := (HINV.out).2; omega
            case c5 => have := HGR.out.size; simp; omega
            intro v' w2 hown2 hgrow _
            rw [rows_snoc] at hown2
            have hg2 : Grows w w2 := grows_of_grownBy (bl_alloc HGR.out _) hgrow (fun kk hkk => (HO.out.lt kk hkk).1)
            have HO2 := Lib.hid hown2
            have HG2 := Lib.hid hg2
            clear hown2 hgrow hg2
            go_wp2_with fail
            go_roundw
            case rel =>
              refine ⟨j + 1, out ++ [(x.tm, -1)], true, by go_num, by omega, rfl, HSTEP.out, HG2.out, ?_⟩
              have := HO2.out
              rw [show out.length + 1 = (out ++ [(x.tm, -1)]).length by simp] at this
              exact this
            case measure => simp [intOf]; omega
          · go_wp2_with (go_at_call 28; refine (HCL.out _).mono ?_; rintro e w' ⟨rfl, rfl⟩)
            go_roundw
            case rel => exact ⟨j + 1, out, true, by go_num, by omega, rfl, HSTEP.out, HGR.out, HO.out⟩
            case measure => simp [intOf]; omega
      · have hjn : j = n := by omega
        subst hjn
        have hsp : spansN i l = out := by
          unfold spansN
          rw [← List.take_length (l := l), en, hf]
        have HO := Lib.hid hown
        have HGR := Lib.hid hgr
        have HSP := Lib.hid hsp
        clear hf hown hgr hsp
        go_wp2_with fail
        go_ret
        exact ⟨_, rfl, HGR.out, by rw [HSP.out]; exact HO.out⟩

def sgIHas (l : List Int) : SG Grows := ⟨fun v w => IHas w v l, fun _ _ _ h hg => h.grows hg⟩
theorem last_get {l : List VW} (h : 0 < l.length) : lastV l = l[l.length - 1] := by
  rw [lastV, List.getLastD_eq_getLast?, List.getLast?_eq_getElem?, List.getElem?_eq_getElem (by omega)]
  rfl
theorem old_get {l : List VW} (h : 2 ≤ l.length) : oldS l = l[l.length - 2].set := by
  unfold oldS
  rw [if_pos h, List.getD_eq_getElem?_getD, List.getElem?_eq_getElem (by omega)]
  rfl

theorem rcame_any (vl : Value) (l : List VW) (w : World) (h : VHas w vl l) (hm : l.length ≤ 1000000) (hok : AllOk l) :
    Calls Try.prog 23 #[vl] w (RetV w (.int .u64 (cameN l : Int))) := by
  have hn1 := nowS_lt hok
  have hn2 := oldS_lt hok
  rcases h with ⟨rfl, a, cap, rfl⟩ | ⟨g, o, cap, rfl, hgb, hat⟩
  · go_enter Try.func23, Try.ntmps23
    go_wp2_with fail
    go_ret
    exact ⟨rfl, Below.refl _ _⟩
  · by_cases h0 : l.length = 0
    · obtain rfl := List.eq_nil_of_length_eq_zero h0
      go_enter Try.func23, Try.ntmps23
      go_wp2_with fail
      go_ret
      exact ⟨rfl, Below.refl _ _⟩
    · obtain ⟨-, -, c2⟩ := vat_cells hat (l.length - 1) (by omega)
      have hnow : l[l.length - 1].set = nowS l := by rw [nowS, last_get (by omega)]
      rw [hnow] at c2
      have hcl := fun W => rlist_any (nowS l) hn1 W
      by_cases h1 : l.length = 1
      · have hcame : cameN l = nowS l := by
          have h0 : oldS l = 0 := by unfold oldS; rw [if_neg (by omega)]
          unfold cameN
          rw [h0]
          apply Nat.eq_of_testBit_eq
          intro i
          rw [andNot_bit _ _ _ (by omega)]
          by_cases hi : i < 64
          · simp [hi]
          · have : nowS l < 2 ^ i := Nat.lt_of_lt_of_le (show nowS l < 2 ^ 64 by simpa using hn1) (Nat.pow_le_pow_right (by omega) (by omega))
            rw [Nat.testBit_lt_two_pow this]
            simp
        rw [hcame]
        rw [h1] at c2 ⊢
        obtain ⟨q, eq⟩ : ∃ q, nowS l = q := ⟨_, rfl⟩
        rw [eq] at c2 hcl hn1 ⊢
        have HCL := Lib.hid hcl
        simp only [Nat.sub_self, Nat.zero_mul, Nat.add_zero] at c2
        clear hat hcl hnow hcame h0 h1 eq hn2
        go_enter Try.func23, Try.ntmps23
        go_wp2_with fail
        refine (HCL.out _).mono ?_
        rintro e w1 ⟨v3, rfl, hg1, ho1⟩
        have hof := rof_any v3 _ w1 ho1.has (Nat.le_trans (listN_length q) (by omega))
        rw [ofN_listN q hn1] at hof
        have HG := Lib.hid hg1
        have HOF := Lib.hid hof
        clear hg1 ho1 hof
        go_wp2_with (go_at_call 54; refine (HOF.out).mono ?_; rintro e w' ⟨rfl, rfl⟩)
        go_ret
        exact ⟨rfl, HG.out⟩
      · obtain ⟨-, -, c3⟩ := vat_cells hat (l.length - 2) (by omega)
        rw [← old_get (by omega)] at c3
        have hcame : cameN l = withoutN (nowS l) (listN (oldS l)) := (without_list _ _ hn2).symm
        rw [hcame]
        have hcl2 := fun W => rlist_any (oldS l) hn2 W
        have hnl : (nowS l) < 18446744073709551616 := hn1
        obtain ⟨q, eq⟩ : ∃ q, nowS l = q := ⟨_, rfl⟩
        rw [eq] at c2 hcl hn1 ⊢
        obtain ⟨q2, eq2⟩ : ∃ q, oldS l = q := ⟨_, rfl⟩
        rw [eq2] at c3 hcl2 hn2 ⊢
        obtain ⟨m, em⟩ : ∃ m, l.length = m + 2 := ⟨l.length - 2, by omega⟩
        rw [em] at c2 c3 hm ⊢
        simp only [show m + 2 - 1 = m + 1 by omega, Nat.add_sub_cancel] at c2 c3
        have HCL := Lib.hid hcl
        have HCL2 := Lib.hid hcl2
        clear hat hcl hcl2 hnow hcame h0 h1 eq eq2 em hnl
        have j1 : ((m : Int) + 2) - 2 = (m : Int) := by omega
        have j2 : (0 : Int) ≤ (m : Int) := by omega
        have j3 : (m : Int) < (m : Int) + 2 := by omega
        have j4 : wrap64 (m : Int) = (m : Int) := by rw [← wrapEq]; exact IntWalk.i64_in _ (by omega)
        have hwo := fun v W (hv : IHas W v (listN q2)) => rwithout_any q v (listN q2) W hn1 hv (Nat.le_trans (listN_length q2) (by omega))
        obtain ⟨r, er⟩ : ∃ r, withoutN q (listN q2) = r := ⟨_, rfl⟩
        rw [er] at hwo ⊢
        have HWO := Lib.hid hwo
        clear hwo er
        go_enter Try.func23, Try.ntmps23
        go_wp2_with fail
        refine (HCL.out _).mono ?_
        rintro e w1 ⟨v3, rfl, hg1, ho1⟩
        have hof := fun W (hg : Grows w1 W) => rof_any v3 _ W (ho1.has.grows hg) (Nat.le_trans (listN_length q) (by omega))
        rw [ofN_listN q hn1] at hof
        have HG := Lib.hid hg1
        have HOF := Lib.hid hof
        clear hg1 ho1 hof
        go_wp2_with fail
        refine wp_wide2 [.fix _ v3, .fix _ (.int .u64 (q : Int)), .fix _ (.slice (some ⟨g, o, none⟩) (m + 2) cap), .fix _ (.slice (some ⟨g, o, none⟩) (m + 2) cap), .fix _ (.int .i64 ((m : Int) + 2)), .fix _ (.int .i64 (m : Int)), .fix _ (.pointer (some ⟨g, o + m * 3, none⟩)), .fix _ (.pointer (some ⟨g, o + m * 3 + 2, none⟩)), .fix _ (.int .u64 (q2 : Int)), sgIHas (listN q2), .fix _ (.int .u64 (r : Int)), .fix _ (.int .u64 (r : Int))] ?f1 (by kernel_rfl) (by kernel_rfl) rfl (fun vals => by simp [Act.over, dstsOf, overL]; rfl) ?_ ?_
        · refine ⟨?_, ?_, ?_, ?_, ?_, ?_, ?_, ?_, ?_, ?_, ?_, ?_, trivial⟩
          all_goals
            intro vals w' hE hn R hR
            simp [needsOf, dstAt, gOf, SG.fix, sgIHas] at hn hR
            try simp only [hn] at hR
            have HR := Lib.hid hR
            have HE := Lib.hid (hE)
            clear hR hE
          case refine_2 =>
            go_wp2_with (go_at_call 54; refine (HOF.out _ HE.out).mono ?_; rintro e w3 ⟨rfl, rfl⟩)
            exact HR.out _ _ rfl (grows_refl _)
          case refine_9 =>
            have c9 := (HE.out.cell (p := ⟨g, o + m * 3 + 2, none⟩) (Nat.lt_of_lt_of_le hgb HG.out.size)).trans ((HG.out.cell (p := ⟨g, o + m * 3 + 2, none⟩) hgb).trans c3)
            go_wp2_with fail
            exact HR.out _ _ rfl (grows_refl _)
          case refine_10 =>
            go_wp2_with (go_at_call 53; refine (HCL2.out _).mono ?_; rintro e w3 ⟨v9, rfl, hg9, ho9⟩)
            exact HR.out _ _ ho9.has hg9
          case refine_11 =>

            go_wp2_with (go_at_call 55; refine (HWO.out _ _ hn.2).mono ?_; rintro e w3 ⟨rfl, hg9⟩)
            exact HR.out _ _ rfl hg9
          all_goals
            go_wp2_with fail
            exact HR.out _ _ rfl (grows_refl _)
        · intro vals w' hE hn
          have h6 := hn 11 2 rfl
          simp [gOf, SG.fix] at h6
          clear hn
          have HE := Lib.hid (hE)
          clear hE
          go_wp2_with fail
          go_ret
          exact ⟨congrArg Ending.returned h6, grows_trans _ _ _ HG.out HE.out⟩

theorem rwent_any (vl : Value) (l : List VW) (w : World) (h : VHas w vl l) (hm : l.length ≤ 1000000) (hok : AllOk l) :
    Calls Try.prog 25 #[vl] w (RetV w (.int .u64 (wentN l : Int))) := by
  have hn1 := nowS_lt hok
  have hn2 := oldS_lt hok
  by_cases h2 : 2 ≤ l.length
  · rcases h with ⟨rfl, a, cap, rfl⟩ | ⟨g, o, cap, rfl, hgb, hat⟩
    · simp at h2
    · obtain ⟨-, -, c2⟩ := vat_cells hat (l.length - 1) (by omega)
      have hnow : l[l.length - 1].set = nowS l := by rw [nowS, last_get (by omega)]
      rw [hnow] at c2
      obtain ⟨-, -, c3⟩ := vat_cells hat (l.length - 2) (by omega)
      rw [← old_get (by omega)] at c3
      have hwent : wentN l = withoutN (oldS l) (listN (nowS l)) := (without_list _ _ hn1).symm
      rw [hwent]
      have hcl := fun W => rlist_any (nowS l) hn1 W
      obtain ⟨q, eq⟩ : ∃ q, nowS l = q := ⟨_, rfl⟩
      rw [eq] at c2 hcl hn1 ⊢
      obtain ⟨q2, eq2⟩ : ∃ q, oldS l = q := ⟨_, rfl⟩
      rw [eq2] at c3 hn2 ⊢
      obtain ⟨m, em⟩ : ∃ m, l.length = m + 2 := ⟨l.length - 2, by omega⟩
      rw [em] at c2 c3 hm ⊢
      simp only [show m + 2 - 1 = m + 1 by omega, Nat.add_sub_cancel] at c2 c3
      have hwo := fun v W (hv : IHas W v (listN q)) => rwithout_any q2 v (listN q) W hn2 hv (Nat.le_trans (listN_length q) (by omega))
      obtain ⟨r, er⟩ : ∃ r, withoutN q2 (listN q) = r := ⟨_, rfl⟩
      rw [er] at hwo ⊢
      have HCL := Lib.hid hcl
      have HWO := Lib.hid hwo
      clear hat hcl hwo hnow hwent eq eq2 em er h2
      have j1 : ((m : Int) + 2) - 2 = (m : Int) := by omega
      have j2 : (0 : Int) ≤ (m : Int) := by omega
      have j3 : (m : Int) < (m : Int) + 2 := by omega
      have j4 : wrap64 (m : Int) = (m : Int) := by rw [← wrapEq]; exact IntWalk.i64_in _ (by omega)
      have j5 : ((m : Int) + 2) - 1 = (m : Int) + 1 := by omega
      have j6 : (0 : Int) ≤ (m : Int) + 1 := by omega
      have j7 : (m : Int) + 1 < (m : Int) + 2 := by omega
      have j8 : wrap64 ((m : Int) + 1) = (m : Int) + 1 := by rw [← wrapEq]; exact IntWalk.i64_in _ (by omega)
      go_enter Try.func25, Try.ntmps25
      go_wp2_with fail
      refine wp_wide2 [.fix _ (.slice (some ⟨g, o, none⟩) (m + 2) cap), .fix _ (.slice (some ⟨g, o, none⟩) (m + 2) cap), .fix _ (.int .i64 ((m : Int) + 2)), .fix _ (.int .i64 (m : Int)), .fix _ (.pointer (some ⟨g, o + m * 3, none⟩)), .fix _ (.pointer (some ⟨g, o + m * 3 + 2, none⟩)), .fix _ (.int .u64 (q2 : Int)), .fix _ (.slice (some ⟨g, o, none⟩) (m + 2) cap), .fix _ (.slice (some ⟨g, o, none⟩) (m + 2) cap), .fix _ (.int .i64 ((m : Int) + 2)), .fix _ (.int .i64 ((m : Int) + 1)), .fix _ (.pointer (some ⟨g, o + (m + 1) * 3, none⟩)), .fix _ (.pointer (some ⟨g, o + (m + 1) * 3 + 2, none⟩)), .fix _ (.int .u64 (q : Int)), sgIHas (listN q), .fix _ (.int .u64 (r : Int)), .fix _ (.int .u64 (r : Int))] ?f1 (by kernel_rfl) (by kernel_rfl) rfl (fun vals => by simp [Act.over, dstsOf, overL]; rfl) ?_ ?_
      · refine ⟨?_, ?_, ?_, ?_, ?_, ?_, ?_, ?_, ?_, ?_, ?_, ?_, ?_, ?_, ?_, ?_, ?_, trivial⟩
        all_goals
          intro vals w' hE hn R hR
          simp [needsOf, dstAt, gOf, SG.fix, sgIHas] at hn hR
          try simp only [hn] at hR
          have HR := Lib.hid hR
          have HE := Lib.hid (hE)
          clear hR hE
        case refine_7 =>
          have c9 := (HE.out.cell (p := ⟨g, o + m * 3 + 2, none⟩) hgb).trans c3
          go_wp2_with fail
          exact HR.out _ _ rfl (grows_refl _)
        case refine_14 =>
          have c9 := (HE.out.cell (p := ⟨g, o + (m + 1) * 3 + 2, none⟩) hgb).trans c2
          go_wp2_with fail
          exact HR.out _ _ rfl (grows_refl _)
        case refine_15 =>
          go_wp2_with (go_at_call 53; refine (HCL.out _).mono ?_; rintro e w3 ⟨v9, rfl, hg9, ho9⟩)
          exact HR.out _ _ ho9.has hg9
        case refine_16 =>
          go_wp2_with (go_at_call 55; refine (HWO.out _ _ hn.2).mono ?_; rintro e w3 ⟨rfl, hg9⟩)
          exact HR.out _ _ rfl hg9
        all_goals
          go_wp2_with fail
          exact HR.out _ _ rfl (grows_refl _)
      · intro vals w' hE hn
        have h6 := hn 16 2 rfl
        simp [gOf, SG.fix] at h6
        clear hn
        have HE := Lib.hid (hE)
        clear hE
        go_wp2_with fail
        go_ret
        exact ⟨congrArg Ending.returned h6, HE.out⟩
  · have hw0 : wentN l = 0 := by
      have h0 : oldS l = 0 := by unfold oldS; rw [if_neg h2]
      unfold wentN
      rw [h0]
      simp
    rw [hw0]
    have hlt : (l.length : Int) < 2 := by omega
    obtain ⟨a, cap, rfl⟩ := h.len
    clear h
    go_enter Try.func25, Try.ntmps25
    go_wp2_with fail
    go_ret
    exact ⟨rfl, Below.refl _ _⟩
end Go.Proofs.Ytkihhdoejpjbbaa
