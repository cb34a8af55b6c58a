/- The walk of TablePlays. -/
import Derived.Test.YtdmmceclohkkdaaOne2
import Derived.Test.YtdmmceclohkkdaaSame
import Derived.Test.YtdmmceclohkkdaaTabW
import Derived.Test.YtdmmceclohkkdaaActO
namespace Go.Proofs.Ytdmmceclohkkdaa
open Go.RowKit Go.Sort
set_option maxHeartbeats 4000000
set_option maxRecDepth 100000
theorem mostOf_le (n : Int) : mostOfI n ≤ 65536 := by unfold mostOfI; omega
/-- Both behind a call. -/
theorem Duo.one {W w w' : World} {B tb mb p M : Nat} {kv vw : Value} {l : List DR} {e : Ending} (h : Duo w B tb mb kv p vw l M) (hW : W.heap.size ≤ B) (hg : Grows W w) (ho : OneTo w B tb kv mb l M e w') :
    ∃ kv' a n c l', e = .returned (.tuple #[dval (.slice a n c) M, .bool true]) ∧ TabAt TTI w' B tb kv' mb (l'.map tv) M ∧ ROwn w' B (.slice a n c) l' ∧ l'.length ≤ l.length + 1 ∧ w'.heap[p]? = some (.cells #[vw, .int .i64 (M : Int)] TDT (0, 0)) ∧ Grows W w' := by
  obtain ⟨kv', v', l', rfl, h1, h2, h3, h4⟩ := ho
  obtain ⟨a, c, rfl⟩ := ROwn.len h2 rfl
  refine ⟨kv', a, _, c, l', rfl, h1, h2, h3, box_chg h.box h4 (fun hs => ?_), grows_chg hg h4 (fun j hj => ?_)⟩
  · rcases hs with hs | hs
    · exact h.pS hs
    · exact Nat.lt_irrefl _ (Nat.lt_of_lt_of_le (box_lt h.box) hs)
  · rcases hj with (hs | hs | hs) | hs
    · rw [hs]; exact Nat.le_trans hW h.tab.bt
    · rw [hs]; exact Nat.le_trans hW h.tab.bm
    · exact Nat.le_trans hW (h.tab.own.lt _ hs).1
    · exact Nat.le_trans hg.size hs
section
attribute [-go_sem] run_eql_struct run_neq_struct
theorem tablePlays_walk (most : Int) {v : Value} {l : List AC} {w : World} (h : AHas w v l) (hk : ∀ x ∈ l, AKind x) : Calls Try.prog 7 #[.int .i64 most, v] w (RetV w (.bool true)) := by
  have HN := Lib.hid (fun W => tnewI most W)
  have HD := Lib.hid (fun W => rnew_any most W)
  have HW := Lib.hid (fun W => tworks_any W)
  obtain ⟨n, en⟩ : ∃ n, l.length = n := ⟨_, rfl⟩
  obtain ⟨a, cap, rfl⟩ := h.len en
  obtain ⟨M, eM⟩ : ∃ M, mostOfI most = M := ⟨_, rfl⟩
  rw [eM] at HN HD
  have HH := Lib.hid h
  have EN := Lib.hid en
  have HK := Lib.hid hk
  obtain ⟨B, eB⟩ : ∃ B, w.heap.size = B := ⟨_, rfl⟩
  have EB := Lib.hid eB
  clear h en hk eM
  go_enter Try.func7, Try.ntmps7
  go_wp2_with fail
  refine (HN.out _).mono ?_
  rintro e w1 ⟨rfl, hg1, ht1⟩
  rw [eB] at ht1
  have HT1 := Lib.hid ht1
  have HG1 := Lib.hid hg1
  clear ht1 hg1
  go_wp2_with fail
  refine (HD.out _).mono ?_
  rintro e w2 ⟨rfl, hg2⟩
  have HG2 := Lib.hid hg2
  clear hg2
  obtain ⟨w3, e3⟩ : ∃ w3, w2.alloc (.cells #[.slice none 0 0, .int .i64 (M : Int)] TDT) = w3 := ⟨_, rfl⟩
  obtain ⟨p, ep⟩ : ∃ p, w2.heap.size = p := ⟨_, rfl⟩
  have g3 : Grows w2 w3 := by rw [← e3]; exact bl_alloc (Below.refl _ _) _
  have hd3 : Duo w3 B (B + 1) B (.slice none 0 0) p (.slice none 0 0) [] M := by
    have h1 := HT1.out.grows HG2.out
    have h2 := heap_alloc_new w2 (.cells #[.slice none 0 0, .int .i64 (M : Int)] TDT)
    rw [e3, ep] at h2
    exact ⟨h1.grows g3, World.ownsRow_nil _ _ _ _, h2⟩
  have D3 := Lib.hid hd3
  have G3 := Lib.hid (grows_trans _ _ _ HG1.out (grows_trans _ _ _ HG2.out g3))
  have HBp := Lib.hid (show B ≤ p by rw [← ep, ← eB]; exact (grows_trans _ _ _ HG1.out HG2.out).size)
  have HSA := Lib.hid (same_any hd3.tab hd3.own)
  have E3 := Lib.hid (And.intro e3 ep)
  obtain ⟨c0, -⟩ := cell_in hd3.box 0 rfl
  obtain ⟨c1, -⟩ := cell_in hd3.box 1 rfl
  have z0 := box_lt hd3.box
  clear e3 ep g3 hd3
  go_wp2_with fail
  rw [E3.out.1, E3.out.2]
  clear E3
  go_wp2_with fail
  refine (HSA.out).mono ?_
  rintro e w4 ⟨rfl, hg4⟩
  have D4 := Lib.hid (D3.out.grows hg4)
  have G4 := Lib.hid (grows_trans _ _ _ G3.out hg4)
  clear hg4 c0 c1 z0
  go_wp2_with fail
  go_loopw [7, 8] (fun okv iv wr => ∃ (i : Nat) (kv vw : Value) (l' : List DR), okv = .bool true ∧ iv = .int .i64 (i : Int) ∧ i ≤ n ∧ i ≤ 60 ∧ l'.length ≤ i ∧ Duo wr B (B + 1) B kv p vw l' M ∧ Grows w wr) (fun _ iv _ => 60 - (intOf iv).toNat)
  case atStart => exact ⟨0, _, _, _, rfl, rfl, Nat.zero_le _, Nat.zero_le _, Nat.le_refl _, D4.out, G4.out⟩
  case round =>
    obtain ⟨i, kv, vw, l', rfl, rfl, hi, hi60, hli, hd, hg⟩ := hrel
    have D := Lib.hid hd
    have GR := Lib.hid hg
    have HLI := Lib.hid hli
    clear hd hg hli
    by_cases hlt : i < n ∧ i < 60
    · obtain ⟨hin, h60⟩ := hlt
      have hnl : i < l.length := by rw [EN.out]; exact hin
      obtain ⟨g, o, c', he, hcap, hgl, hat⟩ := HH.out.form EN.out (Nat.lt_of_le_of_lt (Nat.zero_le _) hin)
      simp only [Value.slice.injEq, true_and] at he
      obtain ⟨rfl, rfl⟩ := he
      obtain ⟨q, eq, hq⟩ := HK.out l[i] (List.getElem_mem _)
      have hp := aat_cells (hat.grows GR.out hgl) i hnl
      rw [eq] at hp
      obtain ⟨y, ey⟩ : ∃ y, l[i].2 = y := ⟨_, rfl⟩
      rw [ey] at hp
      obtain ⟨p0, p1, p2, p3, p4⟩ := hp
      have gd : Grows wr wr.drew := bl_drew (Below.refl _ _)
      have DD := Lib.hid (D.out.grows gd)
      have GD := Lib.hid (grows_trans _ _ _ GR.out gd)
      have hone := one_any q y.1 y.2 hq DD.out.tab DD.out.own (Nat.le_trans HLI.out (Nat.le_trans hi60 (by decide))) (by rw [← EB.out]; exact GD.out.size)
      have HONE := Lib.hid hone
      have hn6 : i ≤ 1000000 := Nat.le_trans hi60 (by decide)
      have HNF := Lib.hid (nat_facts i hn6)
      have HWS := Lib.hid (wrap_succ hn6)
      have H60 := Lib.hid h60
      have HIN := Lib.hid hin
      have hd1 : decide ((i : Int) < (n : Int)) = true := decide_eq_true (by omega)
      have hd2 : decide ((i : Int) < 60) = true := decide_eq_true (by omega)
      have hq1 : (i < n) = True := eq_true hin
      have hq2 : (i < 60) = True := eq_true h60
      have hq3 : (i : Int) < (n : Int) := Int.ofNat_lt.2 hin
      have hq4 : (i : Int) < 60 := by omega
      obtain ⟨c0, -⟩ := cell_in D.out.box 0 rfl
      obtain ⟨c1, -⟩ := cell_in D.out.box 1 rfl
      have z1 := box_lt D.out.box
      clear hnl hat eq ey hone hn6 hi hi60 h60 hcap hgl hin gd hq
      obtain ⟨j1, j2, j3, j4, j6⟩ := HNF.out
      go_wp2_with fail
      have mixed : Try.prog.follows .mixedOrders = true := by kernel_rfl
      refine wp_normal ?_
      go_region_law (first
        | (refine step_call (by rfl) 31 #[.tmp 28, .tmp 29, .tmp 33] #[23, TDT, TAC] (by rfl) #[.pointer (some ⟨B + 1, 0, none⟩), dval vw M, .agg #[.int .u8 q, .int .i64 y.1.t, .int .i64 y.1.f, .int .u32 y.1.s, .int .i64 y.2]] (by simp [Act.eval]) Try.f31 Try.func31 (by kernel_rfl) (by kernel_rfl) HONE.out ?_
           intro e w5 hto
           obtain ⟨kv5, a5, n5, cap5, l5, rfl, ht5, ho5, hl5, hb5, hg5⟩ := Duo.one DD.out (by rw [EB.out]; exact Nat.le_refl _) GD.out hto
           refine ⟨_, rfl, ?_⟩
           have X5 := Lib.hid (And.intro ht5 (And.intro ho5 (And.intro hb5 (And.intro hg5 hl5))))
           clear c0 c1 z1
           obtain ⟨c0, c0f⟩ := cell_in hb5 0 rfl
           obtain ⟨c1, c1f⟩ := cell_in hb5 1 rfl
           have z1 := box_lt hb5
           clear hto ht5 ho5 hl5 hb5 hg5)
        | fail)
      all_goals (
        obtain ⟨ht5, ho5, hb5, hg5, hl5⟩ := X5.out
        obtain ⟨hd6, hc6⟩ := Duo.next ht5 ho5 hb5
        obtain ⟨W6, e6⟩ : ∃ W6, (w5.setCell ⟨p, 0, none⟩ (.slice a5 n5 cap5)).setCell ⟨p, 1, none⟩ (.int .i64 (M : Int)) = W6 := ⟨_, rfl⟩
        rw [e6] at hd6 hc6
        have hg6 := grows_chg hg5 hc6 (fun j hj => by rw [hj, EB.out]; exact HBp.out)
        have X6 := Lib.hid (And.intro hd6 (And.intro hg6 (Nat.le_trans hl5 (Nat.succ_le_succ HLI.out))))
        have HS6 := Lib.hid (same_any hd6.tab hd6.own)
        clear c0 c0f c1 c1f z1 ht5 ho5 hb5 hg5 hl5 hc6 hg6 p0 p1 p2 p3 p4
        have c0 := (cell_in hd6.box 0 rfl).1
        have c1 := (cell_in hd6.box 1 rfl).1
        have z1 := box_lt hd6.box
        clear hd6
        simp only [e6]
        clear e6
        go_wp2_with fail
        refine (HS6.out).mono ?_
        rintro e w7 ⟨rfl, hg7⟩
        have X7 := Lib.hid (And.intro (X6.out.1.grows hg7) (grows_trans _ _ _ X6.out.2.1 hg7))
        clear hg7 c0 c1 z1
        go_wp2_with fail
        go_roundw)
      case rel => exact ⟨i + 1, kv5, _, l5, rfl, rfl, HIN.out, H60.out, X6.out.2.2, X7.out.1, X7.out.2⟩
      case measure => exact meas_succ H60.out
      case rel => exact ⟨i + 1, kv5, _, l5, rfl, rfl, HIN.out, H60.out, X6.out.2.2, X7.out.1, X7.out.2⟩
      case measure => exact meas_succ H60.out
    · have hex : (decide ((i : Int) < (n : Int)) = false ∧ (i < n) = False) ∨ (decide ((i : Int) < (n : Int)) = true ∧ (i < n) = True ∧ decide ((i : Int) < 60) = false ∧ (i < 60) = False) := by
        by_cases h1 : i < n
        · exact .inr ⟨decide_eq_true (by omega), eq_true h1, decide_eq_false (by omega), eq_false (by omega)⟩
        · exact .inl ⟨decide_eq_false (by omega), eq_false h1⟩
      clear hlt hi hi60
      rcases hex with ⟨hd1, hq1⟩ | ⟨hd1, hq1, hd2, hq2⟩
      all_goals
        go_wp2_with fail
        refine (HW.out _).mono ?_
        rintro e w3 ⟨rfl, hg3⟩
        have HG3 := Lib.hid (grows_trans _ _ _ GR.out hg3)
        clear hg3
        go_wp2_with fail
        go_ret
        exact ⟨rfl, HG3.out⟩
end
end Go.Proofs.Ytdmmceclohkkdaa
