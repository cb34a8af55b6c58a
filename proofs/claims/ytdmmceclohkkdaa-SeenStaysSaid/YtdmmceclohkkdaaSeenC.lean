/- SeenStays: the walk. -/
import Derived.Test.YtdmmceclohkkdaaSeenB
import Derived.Test.YtdmmceclohkkdaaNumsO
namespace Go.Proofs.Ytdmmceclohkkdaa
open Go.RowKit Go.Sort
set_option maxHeartbeats 4000000
set_option maxRecDepth 100000
/-- What is kept of the one name. -/
def keptS (k : KW) (e : Int) (b : Bool) : List (KW × Value) := if b then [(k, .int .i64 e)] else []
theorem keptS_int {k : KW} {e : Int} {b : Bool} : ∀ p ∈ keptS k e b, ∃ x, p.2 = .int .i64 x := by
  cases b
  · simp [keptS]
  · intro p hp
    simp only [keptS, if_true, List.mem_singleton] at hp
    exact ⟨e, by rw [hp]⟩
theorem keptS_left (k : KW) (e t : Int) (b : Bool) : (keptS k e b).filter (fun p => !overD t p) = keptS k e (b && decide (t ≤ e)) := by
  cases b
  · rfl
  · simp only [keptS, if_true, Bool.true_and, List.filter_cons, List.filter_nil, overD, intOf]
    by_cases h : e < t
    · simp [h, Int.not_le.2 h]
    · simp [h, Int.not_lt.1 h]
theorem keptS_gone (k : KW) (e t : Int) (b : Bool) : ((((keptS k e b).filter (overD t)).length : Nat) : Int) = if (b && decide (e < t)) = true then 1 else 0 := by
  cases b
  · rfl
  · simp only [keptS, if_true, Bool.true_and, List.filter_cons, List.filter_nil, overD, intOf]
    by_cases h : e < t
    · simp [h]
    · simp [h]
theorem keptS_get (k : KW) (e : Int) (b : Bool) : (getK (keptS k e b) k).isSome = b := by
  cases b
  · rfl
  · simp [keptS, getK_cons]
section
attribute [-go_sem] run_eql_struct run_neq_struct
theorem seenStays_walk (k : KW) (en : Int) {v : Value} {l : List Int} {w : World} (h : IHas w v l) : Calls Try.prog 6 #[k.val, .int .i64 en, v] w (RetV w (.bool true)) := by
  obtain ⟨n, eN⟩ : ∃ n, l.length = n := ⟨_, rfl⟩
  obtain ⟨a, cap, rfl⟩ : ∃ a cap, v = .slice a n cap := by
    rcases h with ⟨rfl, a, cap, rfl⟩ | ⟨g, o, cap, rfl, _⟩
    · exact ⟨a, cap, by rw [← eN]; rfl⟩
    · exact ⟨_, cap, by rw [← eN]⟩
  obtain ⟨W, eW⟩ : ∃ W, w.alloc (.cells #[.int .i64 k.t, .int .i64 k.f, .int .u32 k.s] 29) = W := ⟨_, rfl⟩
  have hgb : Grows w W := by rw [← eW]; exact bl_alloc (Below.refl _ _) _
  have hbx := heap_alloc_new w (.cells #[.int .i64 k.t, .int .i64 k.f, .int .u32 k.s] 29)
  rw [eW] at hbx
  have HB := Lib.hid hbx
  have HG := Lib.hid hgb
  have HH := Lib.hid (h.grows hgb)
  have EN := Lib.hid eN
  have z2 := box_lt hbx
  obtain ⟨t0, -⟩ := cell_in hbx 0 rfl
  obtain ⟨t1, -⟩ := cell_in hbx 1 rfl
  obtain ⟨t2, -⟩ := cell_in hbx 2 rfl
  have HN := Lib.hid (fun W => snew_any 9 W)
  have HW := Lib.hid (fun W => seenWorks_any W)
  obtain ⟨b0, eb0⟩ : ∃ b0, w.heap.size = b0 := ⟨_, rfl⟩
  rw [eb0] at HB z2 t0 t1 t2
  clear h eN hgb hbx
  go_enter Try.func6, Try.ntmps6
  go_wp2_with fail
  refine (HN.out _).mono ?_
  rintro e w1 ⟨sb, rfl, hg1, ht1⟩
  rw [show mostOfI 9 = 9 from rfl] at ht1
  have hp := snote_any k en ht1 hg1.size
  rw [show putE [] 9 k = 0 from rfl, if_pos rfl, show insT ([] : List (KW × Value)) k (.int .i64 en) = keptS k en true from rfl] at hp
  have HG1 := Lib.hid hg1
  have HT1 := Lib.hid ht1
  have HP := Lib.hid hp
  have hbx := box_grows HB.out hg1
  have z2 := box_lt hbx
  clear t0 t1 t2
  obtain ⟨t0, -⟩ := cell_in hbx 0 rfl
  obtain ⟨t1, -⟩ := cell_in hbx 1 rfl
  obtain ⟨t2, -⟩ := cell_in hbx 2 rfl
  clear ht1 hg1 hp hbx
  go_wp2_with fail
  refine (HP.out).mono ?_
  intro e w2 hto
  have hg2 := SeenTo.behind HT1.out (Nat.le_refl _) HG1.out hto
  obtain ⟨rfl, kv2, ht2, -, -⟩ := hto
  have HG2 := Lib.hid hg2
  have HT2 := Lib.hid ht2
  clear hg2 ht2 t0 t1 t2
  go_wp2_with fail
  go_loopw [8, 9] (fun bv iv wr => ∃ (i : Nat) (kv : Value) (b : Bool), iv = .int .i64 (i : Int) ∧ bv = .bool b ∧ i ≤ n ∧ i ≤ 40 ∧ SeenAt wr W.heap.size sb (W.heap.size + 1) kv W.heap.size (keptS k en b) 9 ∧ Grows W wr) (fun _ iv _ => 40 - (intOf iv).toNat)
  case atStart => exact ⟨0, _, true, rfl, rfl, Nat.zero_le _, Nat.zero_le _, HT2.out, HG2.out⟩
  case round =>
    obtain ⟨i, kv, b, rfl, rfl, hi, hi40, ht, hg⟩ := hrel
    have HT := Lib.hid ht
    have HGG := Lib.hid hg
    clear ht hg
    by_cases hlt : i < n ∧ i < 40
    · obtain ⟨hin, h40⟩ := hlt
      obtain ⟨g, o, he, hgl, hat⟩ : ∃ g o, a = some ⟨g, o, none⟩ ∧ g < W.heap.size ∧ ∀ i, (h : i < l.length) → W.cell? ⟨g, o + i, none⟩ = some (.int .i64 l[i]) := by
        rcases HH.out with ⟨h0, _⟩ | ⟨g, o, c', h1, h2, h3, h4⟩
        · have h9 := EN.out; rw [h0] at h9; simp at h9; omega
        · simp only [Value.slice.injEq] at h1; exact ⟨g, o, h1.1, h3, h4⟩
      subst he
      have hnl : i < l.length := by rw [EN.out]; exact hin
      have hp0 := hat i hnl
      obtain ⟨t, et⟩ : ∃ t, l[i] = t := ⟨_, rfl⟩
      rw [et] at hp0
      have HC := Lib.hid (fun W' (hg : Grows W W') => (hg.cell (p := ⟨g, o + i, none⟩) hgl).trans hp0)
      have hx := sexpire_any t HT.out keptS_int
      rw [keptS_left, keptS_gone] at hx
      have hn6 : i ≤ 1000000 := Nat.le_trans hi40 (by decide)
      have HNF := Lib.hid (nat_facts i hn6)
      have HWS := Lib.hid (wrap_succ hn6)
      have H40 := Lib.hid h40
      have HIN := Lib.hid hin
      have hd1 : decide ((i : Int) < (n : Int)) = true := decide_eq_true (by omega)
      have hd2 : decide ((i : Int) < 40) = true := decide_eq_true (by omega)
      have hq1 : (i < n) = True := eq_true hin
      have hq2 : (i < 40) = True := eq_true h40
      have hq3 : (i : Int) < (n : Int) := Int.ofNat_lt.2 hin
      have hq4 : (i : Int) < 40 := by omega
      have p0 := HC.out wr HGG.out
      have hgw : g < wr.heap.size := Nat.lt_of_lt_of_le hgl HGG.out.size
      have HGL := Lib.hid hgl
      have HX := Lib.hid hx
      clear hnl hat et hn6 hi hi40 h40 hin hp0 hx hgl
      obtain ⟨j1, j2, j3, j4, j6⟩ := HNF.out
      go_wp2_with fail
      refine (HX.out).mono ?_
      intro e w3 hto
      have hg3 := SeenTo.behind HT.out (Nat.le_refl _) HGG.out hto
      obtain ⟨rfl, kv3, ht3, -, -⟩ := hto
      have hh := fun W' (hg : Grows w3 W') => shas_any k (ht3.grows hg)
      have hnt := fun W' (hg : Grows w3 W') => snote_any k en (ht3.grows hg) (Nat.le_trans hg3.size hg.size)
      have p0 := HC.out w3 hg3
      have hgw : g < w3.heap.size := Nat.lt_of_lt_of_le HGL.out hg3.size
      have hbx := box_grows HB.out hg3
      have z2 := box_lt hbx
      obtain ⟨t0, -⟩ := cell_in hbx 0 rfl
      obtain ⟨t1, -⟩ := cell_in hbx 1 rfl
      obtain ⟨t2, -⟩ := cell_in hbx 2 rfl
      have HG3 := Lib.hid hg3
      rcases Bool.eq_false_or_eq_true b with rfl | rfl
      · by_cases hte : en < t
        · have hd3 : decide (en < t) = true := decide_eq_true hte
          have hd4 : decide (t ≤ en) = false := decide_eq_false (by omega)
          have hq5 : (en < t) = True := eq_true hte
          have hq6 : (t ≤ en) = False := eq_false (by omega)
          simp only [hd4, Bool.and_false] at hh hnt ht3
          rw [keptS_get] at hh
          have HHS := Lib.hid hh
          have HT3 := Lib.hid ht3
          simp only [hd3, Bool.and_true, if_true]
          clear hh hnt ht3 hg3 hbx hte
          go_wp2_with fail
          refine (HHS.out _ (grows_refl _)).mono ?_
          rintro e w4 ⟨rfl, hg4⟩
          have HT4 := Lib.hid (HT3.out.grows hg4)
          have HG4 := Lib.hid (grows_trans _ _ _ HG3.out hg4)
          clear hg4
          go_wp2_with fail
          go_roundw
          case rel => exact ⟨i + 1, kv3, false, rfl, rfl, HIN.out, H40.out, HT4.out, HG4.out⟩
          case measure => exact meas_succ H40.out
        · have hd3 : decide (en < t) = false := decide_eq_false hte
          have hd4 : decide (t ≤ en) = true := decide_eq_true (by omega)
          have hq5 : (en < t) = False := eq_false hte
          have hq6 : (t ≤ en) = True := eq_true (by omega)
          simp only [hd4, Bool.and_true] at hh hnt ht3
          rw [keptS_get] at hh
          simp only [show putE (keptS k en true) 9 k = 12 by simp [putE, keptS, getK_cons], if_neg (show ¬ (12 : Int) = 0 by decide)] at hnt
          have HHS := Lib.hid hh
          have HNT := Lib.hid hnt
          have HT3 := Lib.hid ht3
          simp only [hd3, Bool.and_false, Bool.false_eq_true, if_false]
          clear hh hnt ht3 hg3 hbx hte
          go_wp2_with fail
          refine (HHS.out _ (grows_refl _)).mono ?_
          rintro e w4 ⟨rfl, hg4⟩
          have HT4 := Lib.hid (HT3.out.grows hg4)
          have HP4 := Lib.hid (HNT.out _ hg4)
          have hg34 := grows_trans _ _ _ HG3.out hg4
          have HG4 := Lib.hid hg34
          have hbx := box_grows HB.out hg34
          have z2 := box_lt hbx
          clear t0 t1 t2
          obtain ⟨t0, -⟩ := cell_in hbx 0 rfl
          obtain ⟨t1, -⟩ := cell_in hbx 1 rfl
          obtain ⟨t2, -⟩ := cell_in hbx 2 rfl
          clear hg4 hg34 hbx
          go_wp2_with fail
          refine (HP4.out).mono ?_
          intro e w5 hto
          have hg5 := SeenTo.behind HT4.out (Nat.le_refl _) HG4.out hto
          obtain ⟨rfl, kv5, ht5, -, -⟩ := hto
          have HT5 := Lib.hid ht5
          have HG5 := Lib.hid hg5
          clear hg5 ht5
          go_wp2_with fail
          go_roundw
          case rel => exact ⟨i + 1, kv5, true, rfl, rfl, HIN.out, H40.out, HT5.out, HG5.out⟩
          case measure => exact meas_succ H40.out
      · simp only [Bool.false_and] at hh hnt ht3
        rw [keptS_get] at hh
        have HHS := Lib.hid hh
        have HT3 := Lib.hid ht3
        simp only [Bool.false_and, Bool.false_eq_true, if_false]
        clear hh hnt ht3 hg3 hbx
        go_wp2_with fail
        refine (HHS.out _ (grows_refl _)).mono ?_
        rintro e w4 ⟨rfl, hg4⟩
        have HT4 := Lib.hid (HT3.out.grows hg4)
        have HG4 := Lib.hid (grows_trans _ _ _ HG3.out hg4)
        clear hg4
        go_wp2_with fail
        go_roundw
        case rel => exact ⟨i + 1, kv3, false, rfl, rfl, HIN.out, H40.out, HT4.out, HG4.out⟩
        case measure => exact meas_succ H40.out
    · have hex : (decide ((i : Int) < (n : Int)) = false ∧ (i < n) = False) ∨ (decide ((i : Int) < (n : Int)) = true ∧ (i < n) = True ∧ decide ((i : Int) < 40) = false ∧ (i < 40) = False) := by
        by_cases h1 : i < n
        · exact .inr ⟨decide_eq_true (by omega), eq_true h1, decide_eq_false (by omega), eq_false (by omega)⟩
        · exact .inl ⟨decide_eq_false (by omega), eq_false h1⟩
      clear hlt hi hi40
      rcases hex with ⟨hd1, hq1⟩ | ⟨hd1, hq1, hd2, hq2⟩
      all_goals
        go_wp2_with fail
        refine (HW.out _).mono ?_
        rintro e w3 ⟨rfl, hg3⟩
        have HG3 := Lib.hid (grows_trans _ _ _ HG.out (grows_trans _ _ _ HGG.out hg3))
        clear hg3
        go_wp2_with fail
        go_ret
        exact ⟨rfl, HG3.out⟩
end
end Go.Proofs.Ytdmmceclohkkdaa
