/- The chapter's example of names; SeenMost's walk; names that are nil. -/
import Derived.Test.YtdmmceclohkkdaaSeenA
import Derived.Test.YtdmmceclohkkdaaTabNil
import Derived.Test.YtdmmceclohkkdaaTabX
namespace Go.Proofs.Ytdmmceclohkkdaa
open Go.RowKit Go.Sort
set_option maxHeartbeats 4000000
set_option maxRecDepth 100000
abbrev k51 : KW := ⟨5, 1, 0⟩
abbrev k60 : KW := ⟨6, 0, 0⟩
section
attribute [-go_sem] run_eql_struct run_neq_struct
theorem seenWorks_any (w : World) : Calls Try.prog 28 #[] w (RetV w (.bool true)) := by
  have HN := Lib.hid (fun W => snew_any 1 W)
  go_enter Try.func28, Try.ntmps28
  go_wp2_with fail
  refine (HN.out _).mono ?_
  rintro e w1 ⟨sb, rfl, hg1, ht1⟩
  rw [show mostOfI 1 = 1 from rfl] at ht1
  have hp := snote_any k51 9 ht1 hg1.size
  rw [show putE [] 1 k51 = 0 from rfl, if_pos rfl, show insT ([] : List (KW × Value)) k51 (.int .i64 9) = [(k51, .int .i64 9)] from rfl] at hp
  have HG := Lib.hid hg1
  have HT := Lib.hid ht1
  have HP := Lib.hid hp
  clear hg1 ht1 hp
  go_wp2_with fail
  refine (HP.out).mono ?_
  intro e w2 hto
  have hg2 := SeenTo.behind HT.out (Nat.le_refl _) HG.out hto
  obtain ⟨rfl, kv2, ht2, -, -⟩ := hto
  have hp := snote_any k60 9 ht2 hg2.size
  rw [show putE [(k51, .int .i64 9)] 1 k60 = 13 from rfl, if_neg (by decide)] at hp
  have HG2 := Lib.hid hg2
  have HT2 := Lib.hid ht2
  have HP := Lib.hid hp
  clear hg2 ht2 hp
  go_wp2_with fail
  refine (HP.out).mono ?_
  intro e w3 hto
  have hg3 := SeenTo.behind HT2.out (Nat.le_refl _) HG2.out hto
  obtain ⟨rfl, kv3, ht3, -, -⟩ := hto
  have hp := sexpire_any 9 ht3 (fun p hp => ⟨9, by simp only [List.mem_singleton] at hp; rw [hp]⟩)
  rw [show (([(k51, .int .i64 9)] : List (KW × Value)).filter fun p => !overD 9 p) = [(k51, .int .i64 9)] from rfl, show (([(k51, .int .i64 9)] : List (KW × Value)).filter (overD 9)).length = 0 from rfl] at hp
  have HG3 := Lib.hid hg3
  have HT3 := Lib.hid ht3
  have HP := Lib.hid hp
  clear hg3 ht3 hp
  go_wp2_with fail
  refine (HP.out).mono ?_
  intro e w4 hto
  have hg4 := SeenTo.behind HT3.out (Nat.le_refl _) HG3.out hto
  obtain ⟨rfl, kv4, ht4, -, -⟩ := hto
  have hp := sexpire_any 10 ht4 (fun p hp => ⟨9, by simp only [List.mem_singleton] at hp; rw [hp]⟩)
  rw [show (([(k51, .int .i64 9)] : List (KW × Value)).filter fun p => !overD 10 p) = [] from rfl, show (([(k51, .int .i64 9)] : List (KW × Value)).filter (overD 10)).length = 1 from rfl] at hp
  have HG4 := Lib.hid hg4
  have HT4 := Lib.hid ht4
  have HP := Lib.hid hp
  clear hg4 ht4 hp
  go_wp2_with fail
  refine (HP.out).mono ?_
  intro e w5 hto
  have hg5 := SeenTo.behind HT4.out (Nat.le_refl _) HG4.out hto
  obtain ⟨rfl, kv5, ht5, -, -⟩ := hto
  have HP := Lib.hid (slen_any ht5)
  have HG5 := Lib.hid hg5
  clear hg5 ht5
  go_wp2_with fail
  refine (HP.out).mono ?_
  rintro e w6 ⟨rfl, rfl⟩
  go_wp2_with fail
  go_ret
  exact ⟨rfl, HG5.out⟩
end
theorem rem9 {q : Int} (h : 0 ≤ q ∧ q ≤ 255) : ∃ M : Nat, q % 9 = (M : Int) ∧ mostOfI (M : Int) = M ∧ M ≤ 8 := ⟨(q % 9).toNat, by omega, by unfold mostOfI; omega, by omega⟩
theorem seenMost_walk (q : Int) {v : Value} {l : List KW} {w : World} (hq : 0 ≤ q ∧ q ≤ 255) (h : KHas w v l) (hm : l.length ≤ 9223372036854775807) : Calls Try.prog 5 #[.int .u8 q, v] w (RetV w (.bool true)) := by
  have HN := Lib.hid (fun n W => snew_any n W)
  have HW := Lib.hid (fun W => seenWorks_any W)
  obtain ⟨n, en⟩ : ∃ n, l.length = n := ⟨_, rfl⟩
  obtain ⟨a, cap, rfl⟩ := h.len en
  obtain ⟨M, eM, eM2, hM8⟩ := rem9 hq
  have HH := Lib.hid h
  have EN := Lib.hid en
  have HM := Lib.hid hm
  have HM8 := Lib.hid hM8
  have EM2 := Lib.hid eM2
  clear h en hm eM2 hM8
  go_enter Try.func5, Try.ntmps5
  go_wp2_with fail
  refine (HN.out _ _).mono ?_
  rintro e w1 ⟨sb, rfl, hg1, ht1⟩
  rw [EM2.out] at ht1
  have HT1 := Lib.hid ht1
  have HG1 := Lib.hid hg1
  clear ht1 hg1
  go_wp2_with fail
  go_loopw [6] (fun iv wr => ∃ (i : Nat) (kv : Value) (m : List (KW × Value)), iv = .int .i64 (i : Int) ∧ i ≤ n ∧ i ≤ 60 ∧ SeenAt wr w.heap.size sb (w.heap.size + 1) kv w.heap.size m M ∧ Grows w wr) (fun iv _ => 60 - (intOf iv).toNat)
  case atStart => exact ⟨0, _, _, rfl, Nat.zero_le _, Nat.zero_le _, HT1.out, HG1.out⟩
  case round =>
    obtain ⟨i, kv, m, rfl, hi, hi60, ht, hg⟩ := hrel
    have HT := Lib.hid ht
    have HGG := Lib.hid hg
    have HI := Lib.hid (And.intro hi hi60)
    clear ht hg
    by_cases hlt : i < n ∧ i < 60
    · obtain ⟨hin, h60⟩ := hlt
      have hnl : i < l.length := by rw [EN.out]; exact hin
      obtain ⟨g, o, c', he, hcap, hgl, hat⟩ := HH.out.form EN.out (Nat.lt_of_le_of_lt (Nat.zero_le _) hin)
      simp only [Value.slice.injEq, true_and] at he
      obtain ⟨rfl, rfl⟩ := he
      obtain ⟨y, ey⟩ : ∃ y, l[i] = y := ⟨_, rfl⟩
      have hp := kat_cells (hat.grows HGG.out hgl) i hnl
      rw [ey] at hp
      obtain ⟨p0, p1, p2⟩ := hp
      have HPUT := Lib.hid (snote_any y 1 HT.out HGG.out.size)
      have hn6 : i ≤ 1000000 := Nat.le_trans hi60 (by decide)
      have HNF := Lib.hid (nat_facts i hn6)
      have HWS := Lib.hid (wrap_succ hn6)
      have H60 := Lib.hid h60
      have HIN := Lib.hid hin
      have hd1 : decide ((i : Int) < (n : Int)) = true := decide_eq_true (by omega)
      have hd2 : decide ((i : Int) < 60) = true := decide_eq_true (by omega)
      have hq1 : (i < n) = True := eq_true hin
      have hq2 : (i < 60) = True := eq_true h60
      have hq3 : (i : Int) < (n : Int) := Int.ofNat_lt.2 hin
      have hq4 : (i : Int) < 60 := by omega
      clear hnl hat ey hn6 hi hi60 h60 hcap hgl hin
      obtain ⟨j1, j2, j3, j4, j6⟩ := HNF.out
      go_wp2_with fail
      refine (HPUT.out).mono ?_
      intro e w2 hto
      have hg2 := SeenTo.behind HT.out (Nat.le_refl _) HGG.out hto
      obtain ⟨rfl, kv2, ht2, -, -⟩ := hto
      obtain ⟨m2, em2⟩ : ∃ m2, (if putE m M y = 0 then insT m y (Value.int IntKind.i64 1) else m) = m2 := ⟨_, rfl⟩
      rw [em2] at ht2
      have hf := ht2.tab.few
      have HL := Lib.hid (slen_any ht2)
      have HR := Lib.hid (fun W (hg : Grows w2 W) => sroom_any (ht2.grows hg))
      obtain ⟨N, eN⟩ : ∃ N, m2.length = N := ⟨_, rfl⟩
      rw [eN] at HL HR hf
      have k1 : ((M : Int) < (N : Int)) = False := eq_false (by omega)
      have k2 : (M < N) = False := eq_false (by omega)
      have k3 : wrap64 ((M : Int) - (N : Int)) = (M : Int) - (N : Int) := by unfold wrap64; have := HM8.out; omega
      have k4 : wrap64 ((N : Int) + ((M : Int) - (N : Int))) = (M : Int) := by rw [show (N : Int) + ((M : Int) - (N : Int)) = (M : Int) by omega]; unfold wrap64; have := HM8.out; omega
      have HT2 := Lib.hid ht2
      have HG2 := Lib.hid hg2
      clear hg2 ht2 em2 hf
      go_wp2_with fail
      refine (HL.out).mono ?_
      rintro e w3 ⟨rfl, rfl⟩
      go_wp2_with fail
      refine (HL.out).mono ?_
      rintro e w3 ⟨rfl, rfl⟩
      go_wp2_with fail
      refine (HR.out _ (grows_refl _)).mono ?_
      rintro e w3 ⟨rfl, hg3⟩
      have HT3 := Lib.hid (HT2.out.grows hg3)
      have HG3 := Lib.hid (grows_trans _ _ _ HG2.out hg3)
      clear hg3
      go_wp2_with fail
      go_roundw
      case rel => exact ⟨i + 1, kv2, m2, rfl, HIN.out, H60.out, HT3.out, HG3.out⟩
      case measure => exact meas_succ H60.out
    · have hex : (decide ((i : Int) < (n : Int)) = false ∧ (i < n) = False) ∨ (decide ((i : Int) < (n : Int)) = true ∧ (i < n) = True ∧ decide ((i : Int) < 60) = false ∧ (i < 60) = False) := by
        by_cases h1 : i < n
        · exact .inr ⟨decide_eq_true (by omega), eq_true h1, decide_eq_false (by omega), eq_false (by omega)⟩
        · exact .inl ⟨decide_eq_false (by omega), eq_false h1⟩
      clear hlt hi hi60
      rcases hex with ⟨hd1, hq1⟩ | ⟨hd1, hq1, hd2, hq2⟩
      all_goals
        go_wp2_with fail
        refine (HW.out _).mono ?_
        rintro e w3 ⟨rfl, hg3⟩
        have HG3 := Lib.hid (grows_trans _ _ _ HGG.out hg3)
        clear hg3
        go_wp2_with fail
        go_ret
        exact ⟨rfl, HG3.out⟩
theorem nsnote_any (k : KW) (t : Int) (w : World) : Calls Try.prog 25 #[.pointer none, k.val, .int .i64 t] w (RetV w (.int .i64 1)) := by
  go_enter Try.func25, Try.ntmps25
  go_wp2
  go_ret
  exact ⟨rfl, by (repeat (first | with_reducible exact Below.refl _ _ | with_reducible refine bl_alloc ?_ _ | ((with_reducible refine bl_set ?_ ?_ _); rotate_left; (first | exact Nat.le_refl _ | exact Nat.le_succ_of_le (Nat.le_refl _) | (simp only []; omega))) | with_reducible refine bl_drewN ?_ _ | with_reducible refine bl_drew ?_ | with_reducible refine bl_reg ?_ _))⟩
theorem nshas_any (k : KW) (w : World) : Calls Try.prog 30 #[.pointer none, k.val] w (RetV w (.bool false)) := by
  go_enter Try.func30, Try.ntmps30
  go_wp2
  go_ret
  exact ⟨rfl, by (repeat (first | with_reducible exact Below.refl _ _ | with_reducible refine bl_alloc ?_ _ | ((with_reducible refine bl_set ?_ ?_ _); rotate_left; (first | exact Nat.le_refl _ | exact Nat.le_succ_of_le (Nat.le_refl _) | (simp only []; omega))) | with_reducible refine bl_drewN ?_ _ | with_reducible refine bl_drew ?_ | with_reducible refine bl_reg ?_ _))⟩
theorem nsexpire_any (t : Int) (w : World) : Calls Try.prog 29 #[.pointer none, .int .i64 t] w (RetV w (.int .i64 0)) := by
  go_enter Try.func29, Try.ntmps29
  go_wp2
  go_ret
  exact ⟨rfl, by (repeat (first | with_reducible exact Below.refl _ _ | with_reducible refine bl_alloc ?_ _ | ((with_reducible refine bl_set ?_ ?_ _); rotate_left; (first | exact Nat.le_refl _ | exact Nat.le_succ_of_le (Nat.le_refl _) | (simp only []; omega))) | with_reducible refine bl_drewN ?_ _ | with_reducible refine bl_drew ?_ | with_reducible refine bl_reg ?_ _))⟩
theorem nslen_any (w : World) : Calls Try.prog 26 #[.pointer none] w (RetV w (.int .i64 0)) := by
  go_enter Try.func26, Try.ntmps26
  go_wp2
  go_ret
  exact ⟨rfl, by (repeat (first | with_reducible exact Below.refl _ _ | with_reducible refine bl_alloc ?_ _ | ((with_reducible refine bl_set ?_ ?_ _); rotate_left; (first | exact Nat.le_refl _ | exact Nat.le_succ_of_le (Nat.le_refl _) | (simp only []; omega))) | with_reducible refine bl_drewN ?_ _ | with_reducible refine bl_drew ?_ | with_reducible refine bl_reg ?_ _))⟩
theorem nsroom_any (w : World) : Calls Try.prog 27 #[.pointer none] w (RetV w (.int .i64 0)) := by
  go_enter Try.func27, Try.ntmps27
  go_wp2
  go_ret
  exact ⟨rfl, by (repeat (first | with_reducible exact Below.refl _ _ | with_reducible refine bl_alloc ?_ _ | ((with_reducible refine bl_set ?_ ?_ _); rotate_left; (first | exact Nat.le_refl _ | exact Nat.le_succ_of_le (Nat.le_refl _) | (simp only []; omega))) | with_reducible refine bl_drewN ?_ _ | with_reducible refine bl_drew ?_ | with_reducible refine bl_reg ?_ _))⟩
theorem seenNil_walk (k : KW) (t : Int) (w : World) : Calls Try.prog 10 #[k.val, .int .i64 t] w (RetV w (.bool true)) := by
  obtain ⟨W, eW⟩ : ∃ W, w.alloc (.cells #[.int .i64 k.t, .int .i64 k.f, .int .u32 k.s] 29) = W := ⟨_, rfl⟩
  have hgb : Grows w W := by rw [← eW]; exact bl_alloc (Below.refl _ _) _
  have hbx := heap_alloc_new w (.cells #[.int .i64 k.t, .int .i64 k.f, .int .u32 k.s] 29)
  rw [eW] at hbx
  have HB := Lib.hid hbx
  have HG := Lib.hid hgb
  have z2 := box_lt hbx
  obtain ⟨t0, -⟩ := cell_in hbx 0 rfl
  obtain ⟨t1, -⟩ := cell_in hbx 1 rfl
  obtain ⟨t2, -⟩ := cell_in hbx 2 rfl
  have H1 := Lib.hid (fun W => nsnote_any k t W)
  have H2 := Lib.hid (fun W => nshas_any k W)
  have H3 := Lib.hid (fun W => nsexpire_any t W)
  have H4 := Lib.hid (fun W => nslen_any W)
  have H5 := Lib.hid (fun W => nsroom_any W)
  have H6 := Lib.hid (fun W => seenWorks_any W)
  clear hgb hbx
  go_enter Try.func10, Try.ntmps10
  go_wp2_with fail
  refine (H1.out _).mono ?_
  rintro e w1 ⟨rfl, hg1⟩
  have hbx := box_grows HB.out hg1
  have z2 := box_lt hbx
  clear t0 t1 t2
  obtain ⟨t0, -⟩ := cell_in hbx 0 rfl
  obtain ⟨t1, -⟩ := cell_in hbx 1 rfl
  obtain ⟨t2, -⟩ := cell_in hbx 2 rfl
  have HG1 := Lib.hid (grows_trans _ _ _ HG.out hg1)
  clear hg1 hbx
  go_wp2_with fail
  refine (H2.out _).mono ?_
  rintro e w2 ⟨rfl, hg2⟩
  have HG2 := Lib.hid (grows_trans _ _ _ HG1.out hg2)
  clear hg2 t0 t1 t2
  go_wp2_with fail
  refine (H3.out _).mono ?_
  rintro e w3 ⟨rfl, hg3⟩
  have HG3 := Lib.hid (grows_trans _ _ _ HG2.out hg3)
  clear hg3
  go_wp2_with fail
  refine (H4.out _).mono ?_
  rintro e w4 ⟨rfl, hg4⟩
  have HG4 := Lib.hid (grows_trans _ _ _ HG3.out hg4)
  clear hg4
  go_wp2_with fail
  refine (H5.out _).mono ?_
  rintro e w5 ⟨rfl, hg5⟩
  have HG5 := Lib.hid (grows_trans _ _ _ HG4.out hg5)
  clear hg5
  go_wp2_with fail
  refine (H6.out _).mono ?_
  rintro e w6 ⟨rfl, hg6⟩
  have HG6 := Lib.hid (grows_trans _ _ _ HG5.out hg6)
  clear hg6
  go_wp2_with fail
  go_ret
  exact ⟨rfl, HG6.out⟩
end Go.Proofs.Ytdmmceclohkkdaa
