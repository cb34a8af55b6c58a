/- The walk of MendWithin. -/
import Derived.Test.YthdcmchjlpkkaaaDoorMndM
namespace Go.Proofs.YthdcmchjlpkkaaaDoor.Tr
open Go.RowKit Go.Sort
set_option maxHeartbeats 4000000
set_option maxRecDepth 100000
/-- The least and the greatest of the first i that are in the set, if there are any. -/
structure LQ (c : List Int) (s i : Nat) (lo hi : Int) (is : Bool) : Prop where
  r : -2147483648 ≤ lo ∧ lo ≤ 2147483647 ∧ -2147483648 ≤ hi ∧ hi ≤ 2147483647
  t : is = true → (∃ q : Nat, q < i ∧ hasN s (q : Int) = true) ∧ ∀ q : Nat, q < i → hasN s (q : Int) = true → lo ≤ c.getD q 0 ∧ c.getD q 0 ≤ hi
  n : is = false → ∀ q : Nat, q < i → hasN s (q : Int) = false
theorem LQ.skip {c : List Int} {s i : Nat} {lo hi : Int} {is : Bool} (h : LQ c s i lo hi is) (hb : hasN s (i : Int) = false) : LQ c s (i + 1) lo hi is := by
  refine ⟨h.r, fun ht => ?_, fun hf q hq => ?_⟩
  · obtain ⟨⟨q, h1, h2⟩, h3⟩ := h.t ht
    refine ⟨⟨q, by omega, h2⟩, fun p hp hb2 => ?_⟩
    rcases Nat.lt_or_ge p i with h4 | h4
    · exact h3 p h4 hb2
    · obtain rfl : p = i := by omega
      rw [hb] at hb2; cases hb2
  · rcases Nat.lt_or_ge q i with h4 | h4
    · exact h.n hf q h4
    · obtain rfl : q = i := by omega
      exact hb
theorem LQ.take {c : List Int} {s i : Nat} {lo hi lo' hi' x : Int} {is : Bool} (h : LQ c s i lo hi is) (hb : hasN s (i : Int) = true) (hx : c.getD i 0 = x) (hr : R32 x) (h1 : lo' = x ∨ lo' = lo) (h2 : lo' ≤ x) (h3 : is = true → lo' ≤ lo) (h4 : hi' = x ∨ hi' = hi) (h5 : x ≤ hi') (h6 : is = true → hi ≤ hi') : LQ c s (i + 1) lo' hi' true := by
  unfold R32 at hr
  have hrr := h.r
  refine ⟨by rcases h1 with rfl | rfl <;> rcases h4 with rfl | rfl <;> omega, fun _ => ⟨⟨i, by omega, hb⟩, fun q hq hb2 => ?_⟩, fun hf => by cases hf⟩
  rcases Nat.lt_or_ge q i with h7 | h7
  · cases his : is with
    | true =>
      have := (h.t his).2 q h7 hb2
      have := h3 his
      have := h6 his
      omega
    | false =>
      have := h.n his q h7
      rw [hb2] at this
      cases this
  · obtain rfl : q = i := by omega
    rw [hx]
    exact ⟨h2, h5⟩
theorem within_end {c : List Int} {E : List (List Int)} {D : List Int} {f e d lo hi : Int} {s : Nat} (hc : ∀ y ∈ c, R32 y) (he0 : 0 ≤ e) (hd0 : 0 ≤ d) (he : ∀ l ∈ E, Wi e l) (hd : Wi d D) (h : LQ c s c.length lo hi true) (p : Nat) :
    lo - (e + d) ≤ outI c E D (listN (s &&& allN c.length)) f p ∧ outI c E D (listN (s &&& allN c.length)) f p ≤ hi + (e + d) := by
  obtain ⟨⟨q, h1, h2⟩, h3⟩ := h.t rfl
  refine out_within ?_ (errI_within he0 he) (atI_within hd0 hd) (fun z hz => ?_) p
  · refine List.length_pos_of_mem (a := (q : Int)) ?_
    rw [mem_listN]
    rw [hasN_nat] at h2 ⊢
    simp only [Bool.and_eq_true, decide_eq_true_eq] at h2 ⊢
    rw [Nat.testBit_and, h2.2, allN_bit _ _ h2.1]
    exact ⟨h2.1, by simp; exact h1⟩
  · obtain ⟨z0, z1⟩ := listN_lt hz
    have hb : hasN s ((z.toNat : Nat) : Int) = true := by
      rw [mem_listN] at hz
      rw [show ((z.toNat : Nat) : Int) = z by omega]
      unfold hasN at hz ⊢
      simp only [Bool.and_eq_true, decide_eq_true_eq] at hz ⊢
      refine ⟨hz.1, ?_⟩
      have := hz.2
      rw [Nat.testBit_and] at this
      simp only [Bool.and_eq_true] at this
      exact this.1
    have h4 := h3 z.toNat z1 hb
    have h5 : atI c z.toNat = c.getD z.toNat 0 := by
      have h6 := hc c[z.toNat] (List.getElem_mem z1)
      unfold R32 at h6
      rw [atI_get z1 (by omega), List.getD_eq_getElem?_getD, List.getElem?_eq_getElem z1]
      rfl
    rw [h5]
    exact h4
theorem sum_wr {e d : Int} (he : 0 ≤ e ∧ e ≤ 65535) (hd : 0 ≤ d ∧ d ≤ 65535) : IntKind.i64.wrap (e + d) = e + d ∧ wrap64 (e + d) = e + d := ⟨IntWalk.i64_in _ (by omega), IntWalk.wrap64_in _ (by omega)⟩
theorem set_facts {s : Nat} (h : s ≤ 255) : IntKind.u64.wrap (s : Int) = (s : Int) ∧ IntKind.u8.wrap ((s : Int) % 4) = (s : Int) % 4 ∧ IntKind.i64.wrap ((s : Int) % 4) = (s : Int) % 4 ∧ wrap64 ((s : Int) % 4) = (s : Int) % 4 ∧ Int.tmod (s : Int) 4 = (s : Int) % 4 ∧ IntKind.u8.wrap (s : Int) = (s : Int) ∧ (s : Int) % 256 = (s : Int) := by
  refine ⟨by rw [IntKind.wrap_u64]; omega, by rw [IntKind.wrap_u8]; omega, IntWalk.i64_in _ (by omega), IntWalk.wrap64_in _ (by omega), Int.tmod_eq_emod_of_nonneg (by omega), by rw [IntKind.wrap_u8]; omega, by omega⟩
theorem mendWithin_walk {w : World} {v : Value} {cl : List Int} (nq : Nat) (x : WR) (hc : GRows jv 1 w v cl) (hr : ∀ y ∈ cl, R32 y) (hx : WROk w x) (hT : Laid w) (hn : nq ≤ 255) :
    Calls Tryd.prog 4 #[v, .int .u8 (nq : Int), .agg x.cells] w (RetV w (.bool true)) := by
  obtain ⟨n, en⟩ : ∃ n, cl.length = n := ⟨_, rfl⟩
  obtain ⟨a, cap, rfl⟩ := hc.len en
  obtain ⟨b, eb⟩ : ∃ b, w.heap.size = b := ⟨_, rfl⟩
  have hq := heap_alloc_new w (.cells x.cells 26)
  obtain ⟨W, eW⟩ : ∃ W, w.alloc (.cells x.cells 26) = W := ⟨_, rfl⟩
  have hg : Grows w W := by rw [← eW]; exact bl_alloc (Below.refl _ _) _
  rw [eW, eb] at hq
  have HQ := Lib.hid hq
  have HG := Lib.hid hg
  have HC := Lib.hid (And.intro hc hr)
  have HX := Lib.hid hx
  have HT := Lib.hid hT
  have HF := Lib.hid hn
  have EN := Lib.hid en
  clear hc hr hx hT hn hq hg
  go_enter Tryd.func4, Tryd.ntmps4
  go_wp2_with fail
  go_loopw [7, 8] (fun lv iv wr => ∃ (lw : Value) (i : Nat), lw = lv ∧ iv = .int .i64 (i : Int) ∧ i ≤ n ∧ i ≤ 8 ∧ GOwn ic 1 2 wr W.heap.size lw (cl.take i) ∧ Grows W wr) (fun _ iv _ => 8 - (intOf iv).toNat)
  case atStart => exact ⟨_, 0, rfl, rfl, Nat.zero_le _, Nat.zero_le _, World.ownsRow_nil _ _ _ _, Below.refl _ _⟩
  case round =>
    obtain ⟨lv, i, elv, rfl, hi, hi8, ho, hgr⟩ := hrel
    subst elv
    have D0 := Lib.hid (And.intro ho (And.intro hgr (grows_trans _ _ _ HG.out hgr)))
    clear ho hgr
    by_cases hlt : i < n ∧ i < 8
    · obtain ⟨hin, h8⟩ := hlt
      have hil : i < cl.length := by rw [en]; exact hin
      obtain ⟨g, o, cap', he, hml, hgl, hat⟩ := HC.out.1.form en (by omega)
      simp only [Value.slice.injEq, true_and] at he
      obtain ⟨rfl, rfl⟩ := he
      obtain ⟨y, ey⟩ : ∃ y, cl[i] = y := ⟨_, rfl⟩
      obtain ⟨m1, m2⟩ := conv32 (HC.out.2 y (by rw [← ey]; exact List.getElem_mem hil))
      have q0 : wr.cell? ⟨g, o + i, none⟩ = some (.int .i32 y) := by
        have h1 := hat i hil 0 (by decide)
        rw [ey] at h1
        have h2 := (D0.out.2.2.cell (p := ⟨g, o + i * 1 + 0, none⟩) hgl).trans h1
        simpa using h2
      have gz := Nat.lt_of_lt_of_le hgl D0.out.2.2.size
      obtain ⟨v6, W6, hr6, ho6, hg6⟩ := gapp_one kindI64 y D0.out.1 (by rw [List.length_take]; omega) D0.out.2.1.size
      rw [show cl.take i ++ [y] = cl.take (i + 1) by rw [List.take_succ_eq_append_getElem hil, ey]] at ho6
      have D6 := Lib.hid (And.intro ho6 (grows_of_grownBy D0.out.2.1 hg6 (fun j hj => (D0.out.1.lt j hj).1)))
      have hd1 : decide ((i : Int) < (n : Int)) = true := decide_eq_true (by omega)
      have hd2 : decide ((i : Int) < 8) = true := decide_eq_true (by omega)
      have hq1 : (i < n) = True := eq_true hin
      have hq2 : (i < 8) = True := eq_true h8
      have hq3 : (i : Int) < (n : Int) := Int.ofNat_lt.2 hin
      have hq4 : (i : Int) < 8 := by omega
      have HI := Lib.hid (And.intro hin h8)
      clear hat ey hil hml hgl ho6 hg6 hin h8 hi hi8
      go_wp2_with (at_builtin; refine wpList_append_eq _ rfl _ _ 27 27 rfl _ _ rfl rfl (hr6 _) ?_)
      go_roundw
      case rel => exact ⟨_, i + 1, rfl, rfl, HI.out.1, HI.out.2, D6.out.1, D6.out.2⟩
      case measure => exact meas_succ HI.out.2
    · have hex : (decide ((i : Int) < (n : Int)) = false ∧ (i < n) = False) ∨ (decide ((i : Int) < (n : Int)) = true ∧ (i < n) = True ∧ decide ((i : Int) < 8) = false ∧ (i < 8) = False) := by
        by_cases h1 : i < n
        · exact .inr ⟨decide_eq_true (by omega), eq_true h1, decide_eq_false (by omega), eq_false (by omega)⟩
        · exact .inl ⟨decide_eq_false (by omega), eq_false h1⟩
      have hm8 : (cl.take i).length ≤ 8 := by rw [List.length_take]; omega
      have HWi := Lib.hid (fun W9 (hg9 : Grows wr W9) => (gown_ihas (own_grows D0.out.1 hg9)))
      obtain ⟨la, lc, elv⟩ := GOwn.len kindI64.len D0.out.1 rfl
      subst elv
      obtain ⟨c8, ec8⟩ : ∃ c8, cl.take i = c8 := ⟨_, rfl⟩
      have hr8 : ∀ y ∈ c8, R32 y := fun y hy => HC.out.2 y (by rw [← ec8] at hy; exact List.mem_of_mem_take hy)
      rw [ec8] at hm8 HWi
      obtain ⟨m, em⟩ : ∃ m, c8.length = m := ⟨_, rfl⟩
      rw [em] at hm8
      simp only [ec8, em] at HWi ⊢
      have HB := Lib.hid (box_grows HQ.out D0.out.2.1)
      have GR := Lib.hid D0.out.2.2
      have EM := Lib.hid em
      have HM8 := Lib.hid (And.intro hm8 hr8)
      have hx2 : WROk wr x := by
        obtain ⟨h1, h2, ⟨h3, h4⟩, h5, h6⟩ := HX.out
        have g := D0.out.2.2
        exact ⟨h1, h2, ⟨h3.grows g, fun r hr => ⟨(h4 r hr).1.grows g, (h4 r hr).2⟩⟩, h5.grows g, h6⟩
      have HTU := Lib.hid (turn_any x nq hx2)
      obtain ⟨k0, -⟩ := cell_in HB.out 0 rfl
      obtain ⟨k1, -⟩ := cell_in HB.out 1 rfl
      obtain ⟨k2, -⟩ := cell_in HB.out 2 rfl
      obtain ⟨k3, -⟩ := cell_in HB.out 3 rfl
      have zk := box_lt HB.out
      obtain ⟨m1, m2, m3, m4, m5, m6, m7⟩ := set_facts HF.out
      obtain ⟨fq, efq⟩ : ∃ fq : Int, (nq : Int) % 4 = fq := ⟨_, rfl⟩
      rw [efq] at m2 m3 m4 m5
      have HFR := Lib.hid (show 0 ≤ fq ∧ fq ≤ 3 by omega)
      have HFQ := Lib.hid (And.intro m2 (And.intro m3 (And.intro m4 m5)))
      clear hlt hi hi8 hm8 hr8 ec8 em D0 hx2 m2 m3 m4 m5 efq
      rcases hex with ⟨hd1, hq1⟩ | ⟨hd1, hq1, hd2, hq2⟩
      all_goals
        go_wp2_with fail
        refine HTU.out.mono ?_
        rintro e w3 ⟨hg3, t, rfl, hts, hEh, hDh, hEw, hDw⟩
        clear m1 m6 m7 k0 k1 k2 k3 zk hd1 hq1
        try clear hd2 hq2
        obtain ⟨m2, m3, m4, m5⟩ := HFQ.out
        go_wp2_with fail
        have hsz : t.s < 18446744073709551616 := by rw [hts]; have := HF.out; omega
        have G3 := Lib.hid (grows_trans _ _ _ GR.out hg3)
        have HONE := Lib.hid (one_any fq (HWi.out _ hg3) hEh hDh hsz (HT.out.grows G3.out) (by rw [EM.out]; exact Nat.le_trans HM8.out.1 (by decide)) (by have := HFR.out; omega))
        have HB3 := Lib.hid (box_grows HB.out hg3)
        have HW := Lib.hid (And.intro hts (And.intro hEw hDw))
        have HG3 := Lib.hid hg3
        clear hg3 hts hEh hDh hEw hDw hsz m2 m3 m4 m5
        refine HONE.out.mono ?_
        rintro e w4 ⟨v4, rfl, hg4, ho4⟩
        obtain ⟨cO, ecO⟩ : ∃ cO, oneI c8 (errsOf t.E) t.D (listN (t.s &&& allN c8.length)) fq = cO := ⟨_, rfl⟩
        have hlO : cO.length = m := by rw [← ecO, oneI_length]; exact EM.out
        obtain ⟨oa, oc, rfl⟩ := ho4.len (n := m) (by rw [ecO]; exact hlO)
        rw [ecO] at ho4
        have G4 := Lib.hid (grows_trans _ _ _ G3.out hg4)
        have HO4 := Lib.hid ho4
        have HC4 := Lib.hid (HWi.out _ (grows_trans _ _ _ HG3.out hg4))
        have HB4 := Lib.hid (box_grows HB3.out hg4)
        have HLO := Lib.hid (And.intro hlO ecO)
        have hmm : ((m : Int) != (m : Int)) = false := bne_self_eq_false _
        clear hg4 ho4 hlO ecO
        go_wp2_with fail
        clear hmm
        go_loopw [10, 11, 12, 52] (fun lv hv bv cv wr2 => ∃ (lo hi : Int) (is : Bool) (k : Nat), lv = .int .i64 lo ∧ hv = .int .i64 hi ∧ bv = .bool is ∧ cv = .int .i64 (k : Int) ∧ k ≤ m ∧ LQ c8 nq k lo hi is ∧ Grows w4 wr2) (fun _ _ _ cv _ => m - (intOf cv).toNat)
        case atStart => exact ⟨0, 0, false, 0, rfl, rfl, rfl, rfl, Nat.zero_le _, ⟨by omega, fun h => (by cases h), fun _ q hq => absurd hq (Nat.not_lt_zero _)⟩, Below.refl _ _⟩
        case round =>
          obtain ⟨lo, hi, is, k, rfl, rfl, rfl, rfl, hk, hlq, hgr⟩ := hrel
          have D1 := Lib.hid (And.intro hlq hgr)
          clear hlq hgr
          by_cases hlt : k < m
          · have hkl : k < c8.length := by rw [EM.out]; exact hlt
            obtain ⟨g, o, cap', he, hml, hgl, hat⟩ := (HC4.out.grows D1.out.2).at EM.out (by omega)
            simp only [Value.slice.injEq, true_and] at he
            obtain ⟨rfl, rfl⟩ := he
            have q0 := hat k hkl
            obtain ⟨y, ey⟩ : ∃ y, c8[k] = y := ⟨_, rfl⟩
            rw [ey] at q0
            have hgd : c8.getD k 0 = y := by rw [List.getD_eq_getElem?_getD, List.getElem?_eq_getElem hkl, ey]; rfl
            have HY := Lib.hid (show R32 y from HM8.out.2 y (by rw [← ey]; exact List.getElem_mem hkl))
            have HGD := Lib.hid hgd
            have hd1 : decide ((k : Int) < (m : Int)) = true := decide_eq_true (by omega)
            have hq1 : (k < m) = True := eq_true hlt
            have hq3 : (k : Int) < (m : Int) := Int.ofNat_lt.2 hlt
            have hm8 := HM8.out.1
            have hn6 : k ≤ 1000000 := by omega
            have HWS := Lib.hid (wrap_succ hn6)
            have HLT := Lib.hid hlt
            have HHAS := Lib.hid (rhas_any nq (k : Int) (by have := HF.out; omega) wr)
            have mu : IntKind.u64.wrap (nq : Int) = (nq : Int) := (set_facts HF.out).1
            clear hat hml hkl ey hgd hlt hk hm8 hn6
            go_wp2_with fail
            refine HHAS.out.mono ?_
            rintro e w5 ⟨rfl, rfl⟩
            clear mu q0 hd1 hq1 hq3 hgl
            cases hb : hasN nq (k : Int) with
            | false =>
              have HBH := Lib.hid hb
              clear hb
              go_wp2_with fail
              go_roundw
              case rel => exact ⟨lo, hi, is, k + 1, rfl, rfl, rfl, congrArg (Value.int .i64) HWS.out, HLT.out, D1.out.1.skip HBH.out, D1.out.2⟩
              case measure => rw [HWS.out]; exact meas_succ HLT.out
            | true =>
              have HBH := Lib.hid hb
              clear hb
              cases is with
              | false =>
                go_wp2_with fail
                go_roundw
                case rel => exact ⟨y, y, true, k + 1, rfl, rfl, rfl, congrArg (Value.int .i64) HWS.out, HLT.out, D1.out.1.take HBH.out HGD.out HY.out (.inl rfl) (Int.le_refl _) (fun h => (by cases h)) (.inl rfl) (Int.le_refl _) (fun h => (by cases h)), D1.out.2⟩
                case measure => rw [HWS.out]; exact meas_succ HLT.out
              | true =>
                by_cases hl : y < lo
                · by_cases hh : hi < y
                  · have e1 : decide (y < lo) = true := decide_eq_true hl
                    have e2 : decide (hi < y) = true := decide_eq_true hh
                    have HLH := Lib.hid (And.intro hl hh)
                    go_wp2_with fail
                    go_roundw
                    case rel => exact ⟨y, y, true, k + 1, rfl, rfl, rfl, congrArg (Value.int .i64) HWS.out, HLT.out, D1.out.1.take HBH.out HGD.out HY.out (.inl rfl) (Int.le_refl _) (fun _ => by have := HLH.out; omega) (.inl rfl) (Int.le_refl _) (fun _ => by have := HLH.out; omega), D1.out.2⟩
                    case measure => rw [HWS.out]; exact meas_succ HLT.out
                  · have e1 : decide (y < lo) = true := decide_eq_true hl
                    have e2 : decide (hi < y) = false := decide_eq_false hh
                    have HLH := Lib.hid (And.intro hl hh)
                    go_wp2_with fail
                    go_roundw
                    case rel => exact ⟨y, hi, true, k + 1, rfl, rfl, rfl, congrArg (Value.int .i64) HWS.out, HLT.out, D1.out.1.take HBH.out HGD.out HY.out (.inl rfl) (Int.le_refl _) (fun _ => by have := HLH.out; omega) (.inr rfl) (by have := HLH.out; omega) (fun _ => Int.le_refl _), D1.out.2⟩
                    case measure => rw [HWS.out]; exact meas_succ HLT.out
                · by_cases hh : hi < y
                  · have e1 : decide (y < lo) = false := decide_eq_false hl
                    have e2 : decide (hi < y) = true := decide_eq_true hh
                    have HLH := Lib.hid (And.intro hl hh)
                    go_wp2_with fail
                    go_roundw
                    case rel => exact ⟨lo, y, true, k + 1, rfl, rfl, rfl, congrArg (Value.int .i64) HWS.out, HLT.out, D1.out.1.take HBH.out HGD.out HY.out (.inr rfl) (by have := HLH.out; omega) (fun _ => Int.le_refl _) (.inl rfl) (Int.le_refl _) (fun _ => by have := HLH.out; omega), D1.out.2⟩
                    case measure => rw [HWS.out]; exact meas_succ HLT.out
                  · have e1 : decide (y < lo) = false := decide_eq_false hl
                    have e2 : decide (hi < y) = false := decide_eq_false hh
                    have HLH := Lib.hid (And.intro hl hh)
                    go_wp2_with fail
                    go_roundw
                    case rel => exact ⟨lo, hi, true, k + 1, rfl, rfl, rfl, congrArg (Value.int .i64) HWS.out, HLT.out, D1.out.1.take HBH.out HGD.out HY.out (.inr rfl) (by have := HLH.out; omega) (fun _ => Int.le_refl _) (.inr rfl) (by have := HLH.out; omega) (fun _ => Int.le_refl _), D1.out.2⟩
                    case measure => rw [HWS.out]; exact meas_succ HLT.out
          · obtain rfl : k = m := by omega
            have hd1 : decide ((k : Int) < (k : Int)) = false := decide_eq_false (by omega)
            have hq1 : (k < k) = False := eq_false (by omega)
            have hb5 := box_grows HB4.out D1.out.2
            obtain ⟨k0, -⟩ := cell_in hb5 0 rfl
            obtain ⟨k1, -⟩ := cell_in hb5 1 rfl
            have zk := box_lt hb5
            obtain ⟨u1, u2, u3, u4, -⟩ := mul_wr HX.out.1 HX.out.2.1
            have hsum := sum_wr HX.out.1 HX.out.2.1
            obtain ⟨u5, u6⟩ := hsum
            have HBY := Lib.hid (show 0 ≤ (x.e + x.dd) ∧ (x.e + x.dd) ≤ 131070 by have h1 := HX.out.1; have h2 := HX.out.2.1; omega)
            have HWE := Lib.hid (fun (hy : is = true) p => by
              have h1 := D1.out.1
              rw [hy, ← EM.out] at h1
              have h2 := within_end (f := fq) HM8.out.2 HX.out.1.1 HX.out.2.1.1 HW.out.2.1 HW.out.2.2 h1 p
              exact h2)
            have G5 := Lib.hid (grows_trans _ _ _ G4.out D1.out.2)
            have HO5 := Lib.hid (HO4.out.grows D1.out.2)
            clear hlt hk hb5
            go_wp2_with fail
            clear k0 k1 zk u1 u2 u3 u4 u5 u6 hd1 hq1
            go_loopw [87] (fun pv wr3 => ∃ (p : Nat), pv = .int .i64 (p : Int) ∧ p ≤ k ∧ Grows wr wr3) (fun pv _ => k - (intOf pv).toNat)
            case atStart => exact ⟨0, rfl, Nat.zero_le _, Below.refl _ _⟩
            case round =>
              obtain ⟨p, rfl, hp, hgr⟩ := hrel
              have D2 := Lib.hid hgr
              clear hgr
              by_cases hlt : p < k
              · have hpl : p < cO.length := by rw [HLO.out.1]; exact hlt
                obtain ⟨g, o, cap', he, hml, hgl, hat⟩ := (HO5.out.grows D2.out).at HLO.out.1 (by omega)
                simp only [Value.slice.injEq, true_and] at he
                obtain ⟨rfl, rfl⟩ := he
                have q0 := hat p hpl
                obtain ⟨y, ey⟩ : ∃ y, cO[p] = y := ⟨_, rfl⟩
                rw [ey] at q0
                have hyo : outI c8 (errsOf t.E) t.D (listN (nq &&& allN c8.length)) fq p = y := by
                  rw [← ey]
                  have h1 := HLO.out.2
                  rw [HW.out.1] at h1
                  subst h1
                  simp [oneI]
                have hyr := outI_rng c8 (errsOf t.E) t.D (listN (nq &&& allN c8.length)) fq p
                rw [hyo] at hyr
                have hd1 : decide ((p : Int) < (k : Int)) = true := decide_eq_true (by omega)
                have hq1 : (p < k) = True := eq_true hlt
                have hq3 : (p : Int) < (k : Int) := Int.ofNat_lt.2 hlt
                have hm8 := HM8.out.1
                have hn6 : p ≤ 1000000 := by omega
                have HWS := Lib.hid (wrap_succ hn6)
                have HLT := Lib.hid hlt
                cases his : is with
                | false =>
                  clear hat hml hpl ey hyo hyr hlt hp hm8 hn6
                  go_wp2_with fail
                  go_roundw
                  case rel => exact ⟨p + 1, congrArg (Value.int .i64) HWS.out, HLT.out, D2.out⟩
                  case measure => rw [HWS.out]; exact meas_succ HLT.out
                | true =>
                  have hwe := HWE.out his p
                  rw [hyo] at hwe
                  have hrr := D1.out.1.r
                  have hbb := HBY.out
                  have e1 : IntKind.i64.wrap (lo - (x.e + x.dd)) = lo - (x.e + x.dd) ∧ wrap64 (lo - (x.e + x.dd)) = lo - (x.e + x.dd) := ⟨IntWalk.i64_in _ (by omega), IntWalk.wrap64_in _ (by omega)⟩
                  have e2 : IntKind.i64.wrap (hi + (x.e + x.dd)) = hi + (x.e + x.dd) ∧ wrap64 (hi + (x.e + x.dd)) = hi + (x.e + x.dd) := ⟨IntWalk.i64_in _ (by omega), IntWalk.wrap64_in _ (by omega)⟩
                  have e3 : decide (y < lo - (x.e + x.dd)) = false := decide_eq_false (by omega)
                  have e4 : decide (hi + (x.e + x.dd) < y) = false := decide_eq_false (by omega)
                  obtain ⟨e1, e1'⟩ := e1
                  obtain ⟨e2, e2'⟩ := e2
                  clear hat hml hpl ey hyo hyr hlt hp hm8 hn6 hwe hrr hbb
                  go_wp2_with fail
                  go_roundw
                  case rel => exact ⟨p + 1, congrArg (Value.int .i64) HWS.out, HLT.out, D2.out⟩
                  case measure => rw [HWS.out]; exact meas_succ HLT.out
              · obtain rfl : p = k := by omega
                have hd1 : decide ((p : Int) < (p : Int)) = false := decide_eq_false (by omega)
                have hq1 : (p < p) = False := eq_false (by omega)
                have G6 := Lib.hid (grows_trans _ _ _ G5.out D2.out)
                clear hlt hp
                go_wp2_with fail
                refine (mendWorks_any _ (HT.out.grows G6.out)).mono ?_
                rintro e w7 ⟨rfl, hg7⟩
                have G7 := Lib.hid (grows_trans _ _ _ G6.out hg7)
                clear hg7
                go_wp2_with fail
                go_ret
                exact ⟨rfl, G7.out⟩
end Go.Proofs.YthdcmchjlpkkaaaDoor.Tr
