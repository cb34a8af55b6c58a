/- The walk of TableStops: a table and the document's side by side; then the table gone over, and left. -/
import Derived.Test.YtdmmceclohkkdaaDuo
import Derived.Test.YtdmmceclohkkdaaSame
import Derived.Test.YtdmmceclohkkdaaTabW
namespace Go.Proofs.Ytdmmceclohkkdaa
open Go.RowKit Go.Sort
set_option maxHeartbeats 4000000
set_option maxRecDepth 100000
theorem far_or {i F : Nat} (h : i ≤ F) : (decide ((F : Int) < (i : Int) + 1) = true ∧ i + 1 = F + 1) ∨ (decide ((F : Int) < (i : Int) + 1) = false ∧ i + 1 ≤ F) := by
  by_cases hs : i = F
  · exact .inl ⟨decide_eq_true (by omega), by omega⟩
  · exact .inr ⟨decide_eq_false (by omega), by omega⟩
/-- What the rounds leave alone: both, the box of the bound, the closure's cell. -/
structure StFr (W w : World) (b B tb mb : Nat) (kv : Value) (p : Nat) (vw : Value) (l : List DR) (F : Nat) (c : Nat) : Prop where
  duo : Duo W B tb mb kv p vw l 50
  far : W.heap[b]? = some (.cells #[.int .u8 (F : Int)] 5 (0, 0))
  clo : W.cell? ⟨c, 0, none⟩ = some (.pointer (some ⟨tb, 0, none⟩))
  below : Below b w W
theorem StFr.keep {n : Nat} {W W' w : World} {b B tb mb p F c : Nat} {kv vw : Value} {l : List DR} (h : StFr W w b B tb mb kv p vw l F c) (hr : Rec n W W') (hm : mb < n) (hb : b ≤ w.heap.size) (hn : b ≤ n) : StFr W' w b B tb mb kv p vw l F c :=
  ⟨⟨h.duo.tab.keep hr hm, hr.own h.duo.own, hr.at h.duo.box⟩, hr.at h.far, hr.cell1 h.clo, hr.below h.below hb hn⟩
theorem StFr.grows {W W' w : World} {b B tb mb p F c : Nat} {kv vw : Value} {l : List DR} (h : StFr W w b B tb mb kv p vw l F c) (hg : Grows W W') : StFr W' w b B tb mb kv p vw l F c :=
  ⟨h.duo.grows hg, box_grows h.far hg, box_cell_grows h.clo hg, h.below.trans ((hg : Below _ _ _).mono (Nat.le_of_lt (box_lt h.far)))⟩
/-- A cell elsewhere is set. -/
theorem StFr.set {W w : World} {b B tb mb p F c q : Nat} {kv vw v : Value} {l : List DR} (h : StFr W w b B tb mb kv p vw l F c) (hbq : b < q) (hpq : p ≠ q) (hcq : c ≠ q) (hS : ¬ TabS tb kv mb q) (hR : ∀ j, vw.ownBlock = some j → j ≠ q) : StFr (W.setCell ⟨q, 0, none⟩ v) w b B tb mb kv p vw l F c := by
  have c4 : Chg (fun j => j = q) W (W.setCell ⟨q, 0, none⟩ v) := Chg.setCell (Chg.refl (fun j => j = q) W) (p := ⟨q, 0, none⟩) v (.inr rfl)
  exact ⟨⟨h.duo.tab.chg c4 (fun e => hS (.inl e.symm)) (fun e => hS (.inr (.inl e.symm))) (fun j hj e => hS (.inr (.inr (e ▸ hj)))), c4.own h.duo.own hR, box_chg h.duo.box c4 hpq⟩, box_chg h.far c4 (Nat.ne_of_lt hbq), c4.cellAt h.clo hcq, h.below.setCell (Nat.le_of_lt hbq) v⟩
section
attribute [local go_sem] Oper.semAt_some
attribute [-go_sem] run_eql_struct run_neq_struct
theorem tableStops_walk {v : Value} {l : List KW} (F : Nat) (hF : F ≤ 255) {w : World} (h : KHas w v l) : Calls Try.prog 4 #[v, .int .u8 (F : Int)] w (RetV w (.bool true)) := by
  have HN := Lib.hid (fun W => tnewI 50 W)
  have HD := Lib.hid (fun W => rnew_any 50 W)
  have HW := Lib.hid (fun W => tworks_any W)
  obtain ⟨n, en⟩ : ∃ n, l.length = n := ⟨_, rfl⟩
  obtain ⟨a, cap, rfl⟩ := h.len en
  obtain ⟨W, eW⟩ : ∃ W, w.alloc (.cells #[.int .u8 (F : Int)] 5) = W := ⟨_, rfl⟩
  have hgb : Grows w W := by rw [← eW]; exact bl_alloc (Below.refl _ _) _
  have hbx := heap_alloc_new w (.cells #[.int .u8 (F : Int)] 5)
  rw [eW] at hbx
  obtain ⟨b, eb⟩ : ∃ b, w.heap.size = b := ⟨_, rfl⟩
  rw [eb] at hbx
  have HB := Lib.hid hbx
  have HG := Lib.hid hgb
  have HH := Lib.hid (h.grows hgb)
  have EN := Lib.hid en
  have EB := Lib.hid eb
  have HFF := Lib.hid hF
  clear h en hgb hbx hF
  refine calls_of_wp_marks Try.func4 rfl ?_
  simp only [Try.ntmps4, List.size_toArray, List.length_cons, List.length_nil, Nat.reduceAdd, Nat.reduceSub, Array.replicate_succ, Array.replicate_zero, List.push_toArray, List.append_toArray, List.nil_append, List.cons_append]
  go_wp2_with fail
  refine (HN.out _).mono ?_
  rintro e w1 ⟨rfl, hg1, ht1⟩
  rw [show mostOfI 50 = 50 from rfl] at ht1
  have HT1 := Lib.hid ht1
  have HG1 := Lib.hid hg1
  clear ht1 hg1
  go_wp2_with fail
  refine (HD.out _).mono ?_
  rintro e w2 ⟨rfl, hg2⟩
  rw [show mostOfI 50 = 50 from rfl]
  have HG2 := Lib.hid hg2
  clear hg2
  go_wp2_with fail
  obtain ⟨p, ep⟩ : ∃ p, w2.heap.size = p := ⟨_, rfl⟩
  obtain ⟨B, eB⟩ : ∃ B, W.heap.size = B := ⟨_, rfl⟩
  have hd3 : Duo (w2.alloc (.cells #[.slice none 0 0, .int .i64 ((50 : Nat) : Int)] TDT)) B (B + 1) B (.slice none 0 0) p (.slice none 0 0) [] 50 := by
    have h1 := HT1.out.grows HG2.out
    have g3 : Grows w2 (w2.alloc (.cells #[.slice none 0 0, .int .i64 ((50 : Nat) : Int)] TDT)) := bl_alloc (Below.refl _ _) _
    have h2 := heap_alloc_new w2 (.cells #[.slice none 0 0, .int .i64 ((50 : Nat) : Int)] TDT)
    rw [ep] at h2
    rw [eB] at h1
    exact ⟨h1.grows g3, World.ownsRow_nil _ _ _ _, h2⟩
  have hg3 : Grows W (w2.alloc (.cells #[.slice none 0 0, .int .i64 ((50 : Nat) : Int)] TDT)) := grows_trans _ _ _ HG1.out (grows_trans _ _ _ HG2.out (bl_alloc (Below.refl _ _) _))
  have D3 := Lib.hid hd3
  have G3 := Lib.hid hg3
  have HBp := Lib.hid (show B ≤ p by rw [← ep, ← eB]; exact (grows_trans _ _ _ HG1.out HG2.out).size)
  have EBB := Lib.hid eB
  simp only [eB, ep] at hd3 hg3 ⊢
  clear hd3 hg3 HT1 HG1 HG2
  clear ep eB
  go_loopw [7] (fun iv wr => ∃ (i : Nat) (kv vw : Value) (l' : List DR), iv = .int .i64 (i : Int) ∧ i ≤ n ∧ i ≤ 60 ∧ Duo wr B (B + 1) B kv p vw l' 50 ∧ Grows W wr) (fun iv _ => 60 - (intOf iv).toNat)
  case atStart => exact ⟨0, _, _, _, rfl, Nat.zero_le _, Nat.zero_le _, D3.out, G3.out⟩
  case round =>
    obtain ⟨i, kv, vw, l', rfl, hi, hi60, hd, hg⟩ := hrel
    have D := Lib.hid hd
    have GR := Lib.hid hg
    have hl5 : l'.length ≤ 50 := by have := hd.tab.few; rwa [List.length_map] at this
    have HL5 := Lib.hid hl5
    clear hd hg
    by_cases hlt : i < n ∧ i < 60
    · obtain ⟨hin, h60⟩ := hlt
      have hnl : i < l.length := by rw [EN.out]; exact hin
      obtain ⟨g, o, c', he, hcap, hgl, hat⟩ := HH.out.form EN.out (Nat.lt_of_le_of_lt (Nat.zero_le _) hin)
      simp only [Value.slice.injEq, true_and] at he
      obtain ⟨rfl, rfl⟩ := he
      have hp : ∀ W', Grows W W' → W'.cell? ⟨g, o + i * 3, none⟩ = some (.int .i64 l[i].t) ∧ W'.cell? ⟨g, o + i * 3 + 1, none⟩ = some (.int .i64 l[i].f) ∧ W'.cell? ⟨g, o + i * 3 + 2, none⟩ = some (.int .u32 l[i].s) := fun W' hg => kat_cells (hat.grows hg hgl) i hnl
      obtain ⟨y, ey⟩ : ∃ y, l[i] = y := ⟨_, rfl⟩
      rw [ey] at hp
      have HP := Lib.hid hp
      obtain ⟨p0, p1, p2⟩ := hp wr GR.out
      have hput := tputI y (.int .i64 (i : Int)) D.out.tab (by rw [← EBB.out]; exact GR.out.size)
      rw [← putR_tv] at hput
      have HPUT := Lib.hid hput
      have hn6 : i ≤ 1000000 := Nat.le_trans hi60 (by decide)
      have HNF := Lib.hid (nat_facts i hn6)
      have HWS := Lib.hid (wrap_succ hn6)
      have H60 := Lib.hid h60
      have HIN := Lib.hid hin
      have hd1 : decide ((i : Int) < (n : Int)) = true := decide_eq_true (by omega)
      have hd2 : decide ((i : Int) < 60) = true := decide_eq_true (by omega)
      have hq1 : (i < n) = True := eq_true hin
      have hq2 : (i < 60) = True := eq_true h60
      have hq3 : (i : Int) < (n : Int) := Int.ofNat_lt.2 hin
      have hq4 : (i : Int) < 60 := by omega
      clear hnl hat hp ey hput hn6 hi hi60 h60 hcap hgl hin hl5
      obtain ⟨j1, j2, j3, j4, j6⟩ := HNF.out
      obtain ⟨r, er⟩ : ∃ r, putE (l'.map tv) 50 y = r := ⟨_, rfl⟩
      rw [er] at HPUT
      obtain ⟨lp, elp⟩ : ∃ lp, putR l' 50 y (i : Int) = lp := ⟨_, rfl⟩
      rw [elp] at HPUT
      go_wp2_with fail
      refine (HPUT.out).mono ?_
      intro e w3 hto
      have hg3 := TabTo.behind D.out.tab (by rw [EBB.out]; exact Nat.le_refl _) GR.out hto
      obtain ⟨rfl, kv3, ht3, ho3, hb3⟩ := D.out.to hto
      have HRP := Lib.hid (fun W' (hg : Grows w3 W') => by
        have h1 := rput_any (M := 50) y (i : Int) (own_grows ho3 hg) (Nat.le_trans HL5.out (by decide)) (by rw [← EBB.out]; exact (grows_trans _ _ _ hg3 hg).size)
        rwa [er, elp] at h1)
      have HX := Lib.hid (And.intro ht3 (And.intro hb3 hg3))
      obtain ⟨p0, p1, p2⟩ := HP.out w3 hg3
      obtain ⟨c0, -⟩ := cell_in hb3 0 rfl
      obtain ⟨c1, -⟩ := cell_in hb3 1 rfl
      have z1 := box_lt hb3
      clear hto hg3 ht3 ho3 hb3 er elp
      go_wp2_with fail
      have mixed : Try.prog.follows .mixedOrders = true := by kernel_rfl
      refine wp_normal ?_
      go_region_law (first
        | (refine step_call (by rfl) 21 #[.tmp 30, .tmp 34, .tmp 35] #[TDT, 29, 2] (by rfl) #[dval vw 50, y.val, .int .i64 (i : Int)] (by simp [Act.eval, KW.val]) Try.f21 Try.func21 (by kernel_rfl) (by kernel_rfl) (HRP.out _ (bl_drew (Below.refl _ _))) ?_
           rintro e w4 ⟨v4, rfl, hg4, ho4⟩
           obtain ⟨a4, cap4, rfl⟩ := ROwn.len ho4 rfl
           refine ⟨_, rfl, ?_⟩
           have hg34 := grows_trans _ _ _ (bl_drew (Below.refl _ _) : Grows w3 w3.drew) hg4
           have hb4 := box_grows HX.out.2.1 hg34
           obtain ⟨c4, c4f⟩ := cell_in hb4 0 rfl
           obtain ⟨c5, c5f⟩ := cell_in hb4 1 rfl
           have z4 := box_lt hb4
           have H4 := Lib.hid (And.intro hg34 (And.intro ho4 hb4))
           clear hg4 ho4 hg34 hb4)
        | fail)
      all_goals (
        obtain ⟨hg34, ho4, hb4⟩ := H4.out
        obtain ⟨hd5, hc5⟩ := Duo.next (HX.out.1.grows hg34) ho4 hb4
        have hg5 := grows_chg (grows_trans _ _ _ HX.out.2.2 hg34) hc5 (fun j hj => by rw [hj, EBB.out]; exact HBp.out)
        have H5 := Lib.hid (And.intro hd5 hg5)
        clear hg34 ho4 hb4 hd5 hc5 hg5
        go_wp2_with fail
        go_roundw)
      case rel => exact ⟨i + 1, kv3, _, lp, rfl, HIN.out, H60.out, H5.out.1, H5.out.2⟩
      case measure => exact meas_succ H60.out
      case rel => exact ⟨i + 1, kv3, _, lp, rfl, HIN.out, H60.out, H5.out.1, H5.out.2⟩
      case measure => exact meas_succ H60.out
    · have hex : (decide ((i : Int) < (n : Int)) = false ∧ (i < n) = False) ∨ (decide ((i : Int) < (n : Int)) = true ∧ (i < n) = True ∧ decide ((i : Int) < 60) = false ∧ (i < 60) = False) := by
        by_cases h1 : i < n
        · exact .inr ⟨decide_eq_true (by omega), eq_true h1, decide_eq_false (by omega), eq_false (by omega)⟩
        · exact .inl ⟨decide_eq_false (by omega), eq_false h1⟩
      have HALL := Lib.hid (fun W => tall_any (.pointer (some ⟨B + 1, 0, none⟩)) (.inr ⟨_, rfl⟩) W)
      have qe := fun (W : World) f cs => run_eql_func_nil (P := Try.prog) W 42 f cs Try.underlying42
      obtain ⟨N, eN⟩ : ∃ N, l'.length = N := ⟨_, rfl⟩
      have HNN := Lib.hid (show N ≤ 50 by rw [← eN]; exact hl5)
      have ENN := Lib.hid eN
      obtain ⟨c, ec⟩ : ∃ c, wr.heap.size = c := ⟨_, rfl⟩
      have EC := Lib.hid ec
      clear hlt hi hi60 hl5 eN ec
      rcases hex with ⟨hd1, hq1⟩ | ⟨hd1, hq1, hd2, hq2⟩
      all_goals (
        go_wp2_with fail
        refine (HALL.out _).mono ?_
        rintro e w5 ⟨rfl, hg5, hc5⟩
        rw [EC.out] at hc5 ⊢
        have HG5 := Lib.hid (And.intro hg5 hc5)
        clear hg5 hc5 hd1 hq1
        go_wp2_with fail
        obtain ⟨hg5, hc5⟩ := HG5.out
        obtain ⟨q, eq⟩ : ∃ q, w5.heap.size = q := ⟨_, rfl⟩
        have hg6 : Grows w5 (w5.alloc (.cells #[.int .i64 0] 3)) := bl_alloc (Below.refl _ _) _
        have hqn := heap_alloc_new w5 (.cells #[.int .i64 0] 3)
        rw [eq] at hqn
        have hz6 : (w5.alloc (.cells #[.int .i64 0] 3)).heap.size = q + 1 := by simp [eq]
        obtain ⟨w6, e6⟩ : ∃ w6, w5.alloc (.cells #[.int .i64 0] 3) = w6 := ⟨_, rfl⟩
        rw [e6] at hg6 hqn hz6
        have gr6 : Grows wr w6 := grows_trans _ _ _ hg5 hg6
        have gW6 : Grows W w6 := grows_trans _ _ _ GR.out gr6
        have d6 := D.out.grows gr6
        have hbB : b < B := by rw [← EBB.out]; exact box_lt HB.out
        have hpq : p < q := by
          have := box_lt (D.out.grows hg5).box
          rwa [eq] at this
        have hcq : c ≠ q := fun e => by
          have h1 := box_cell_grows hc5 hg6
          rw [e, (cell_in hqn 0 rfl).1] at h1
          cases h1
        have hqS : ¬ TabS (B + 1) kv B q := d6.tab.notS hqn (by decide) (by decide)
        have hqR : ∀ j, vw.ownBlock = some j → j ≠ q := fun j hj e => by
          obtain ⟨cur, hcur⟩ := ROwn.ty d6.own hj
          rw [e, hqn] at hcur
          injection hcur with hcur
          injection hcur with _ hcur
          exact absurd hcur (by decide)
        have i0 : StFr w6 w b B (B + 1) B kv p vw l' F c := ⟨d6, box_grows HB.out gW6, box_cell_grows hc5 hg6, by rw [← EB.out]; exact grows_trans _ _ _ HG.out gW6⟩
        have I0 := Lib.hid (And.intro i0 hqn)
        have HQ := Lib.hid (And.intro hbB (And.intro hpq (And.intro hcq (And.intro hqS (And.intro hqR (And.intro hz6 gW6))))))
        clear hg5 hc5 hg6 hqn hz6 gr6 gW6 d6 hbB hpq hcq hqS hqR i0
        rw [eq, e6]
        clear eq e6 HG5
        refine wp_range2 (α := KW × Value) rfl (enters_of Try.func67 (by kernel_rfl) rfl) rowV (fun _ => rfl) (fun j => j = q) ?_
          (fun s W => StFr W w b B (B + 1) B kv p vw l' F c ∧ W.heap[q]? = some (.cells #[.int .i64 (s.length : Int)] 3 (0, 0)) ∧ s.length ≤ F)
          (RowG (l'.map tv)) (fun cd s W => cd = .exit 2 ∧ StFr W w b B (B + 1) B kv p vw l' F c ∧ W.heap[q]? = some (.cells #[.int .i64 (s.length : Int)] 3 (0, 0)) ∧ s.length = F + 1 ∧ s.length ≤ N)
          (fun xs => xs.length = N) ?_ ?_ ?_ ?_ ?_ ?_ ?_
        · rintro j rfl; rw [HQ.out.2.2.2.2.2.1]; exact Nat.lt_succ_self _
        · rintro s X Y ⟨h1, h2, h3⟩ hr
          exact ⟨StFr.keep h1 hr (by have := I0.out.1.duo.tab.mlt; exact this) (by rw [EB.out]; exact Nat.le_refl _) (by have := box_lt I0.out.1.far; omega), hr.at h2, h3⟩
        · rintro cd s X Y ⟨h0, h1, h2, h3⟩ hr
          exact ⟨h0, StFr.keep h1 hr (by have := I0.out.1.duo.tab.mlt; exact this) (by rw [EB.out]; exact Nat.le_refl _) (by have := box_lt I0.out.1.far; omega), hr.at h2, h3⟩
        · exact ⟨I0.out.1, I0.out.2, Nat.zero_le _⟩
        · have := tall_tells (base := B) (kv := kv) (mb := B) (tb := B + 1) (c := c) (m := l'.map tv) (most := 50) w6 (fun s W => StFr W w b B (B + 1) B kv p vw l' F c ∧ W.heap[q]? = some (.cells #[.int .i64 (s.length : Int)] 3 (0, 0)) ∧ s.length ≤ F) (fun A h => h.1.duo.tab) (fun s A h => ⟨h.1.clo, kv, l'.map tv, h.1.duo.tab, fun i p _ hp => getK_mem h.1.duo.tab.rises.nodup (List.mem_of_getElem? hp)⟩)
          rw [List.length_map, ENN.out] at this
          exact this
        · intro l0 s x W' hl0 hlt hI hG
          obtain ⟨k, ek⟩ : ∃ k, s.length = k := ⟨_, rfl⟩
          have hx : (l'.map tv)[s.length]? = some x := hG
          rw [ek] at hx
          obtain ⟨hil, rfl⟩ := map_at hx
          obtain ⟨y, ey⟩ : ∃ y, l'[k] = y := ⟨_, rfl⟩
          rw [ey]
          have HI := Lib.hid hI
          have EK := Lib.hid ek
          have HIL := Lib.hid (show k + 1 ≤ N by rw [← ENN.out]; exact hil)
          clear hI hG hx ek ey hil
          simp only [rowV, KW.val]
          gi_wp2_with fail
          refine ⟨Below.refl _ _, ?_⟩
          intro W2 hr2
          obtain ⟨h1, h2, h3⟩ := HI.out
          rw [EK.out] at h2 h3
          have f1 := StFr.keep h1 hr2 (by have := I0.out.1.duo.tab.mlt; exact this) (by rw [EB.out]; exact Nat.le_refl _) (by have := box_lt I0.out.1.far; omega)
          have f2 := hr2.at h2
          obtain ⟨q0, q0f⟩ := cell_in f2 0 rfl
          obtain ⟨b0, -⟩ := cell_in f1.far 0 rfl
          have z1 := box_lt f1.far
          have z3 := box_lt f2
          have hwF := (nat_facts F (Nat.le_trans HFF.out (by decide))).2.2.2.1
          have hws := wrap_succ (Nat.le_trans h3 (Nat.le_trans HFF.out (by decide)) : k ≤ 1000000)
          have hbq := HQ.out.2.1
          have hbB := HQ.out.1
          have hBp := HBp.out
          have c4 : Chg (fun j => j = q) W2 (W2.setCell ⟨q, 0, none⟩ (.int .i64 ((k : Int) + 1))) := Chg.setCell (Chg.refl (fun j => j = q) W2) (p := ⟨q, 0, none⟩) (.int .i64 ((k : Int) + 1)) (.inr rfl)
          have s4 := StFr.set (v := .int .i64 ((k : Int) + 1)) f1 (by omega) (by omega) HQ.out.2.2.1 HQ.out.2.2.2.1 HQ.out.2.2.2.2.1
          have q4 := box_setj (j := 0) (v := .int .i64 ((k : Int) + 1)) f2
          have hlen : ∀ y, ((s ++ [y]).length : Int) = (k : Int) + 1 := fun y => by rw [List.length_append, EK.out]; rfl
          have H4 := Lib.hid (And.intro c4 (And.intro s4 (And.intro q4 hlen)))
          have hor := far_or h3
          have hne1 : (b = q) = False := eq_false (by omega)
          have hne2 : (q = b) = False := eq_false (by omega)
          clear h1 h2 h3 f1 f2 hbq hbB hBp c4 s4 q4 hlen hr2
          obtain ⟨t, et⟩ : ∃ t, decide ((F : Int) < (k : Int) + 1) = t := ⟨_, rfl⟩
          rw [et] at hor
          rcases hor with ⟨rfl, hs⟩ | ⟨rfl, hs⟩
          · have HS := Lib.hid hs
            clear hs
            gi_wp2_with fail
            obtain ⟨c4, s4, q4, hlen⟩ := H4.out
            exact ⟨c4, rfl, s4, by rw [hlen]; exact q4, by have := hlen (y.1, .int .i64 y.2); have := HS.out; omega, by have := hlen (y.1, .int .i64 y.2); have := HIL.out; omega⟩
          · have HS := Lib.hid hs
            clear hs
            gi_wp2_with fail
            obtain ⟨c4, s4, q4, hlen⟩ := H4.out
            exact ⟨c4, s4, by rw [hlen]; exact q4, by have := hlen (y.1, .int .i64 y.2); have := HS.out; omega⟩
        · rintro d xs W7 hd0 hT ⟨h1, h2, h3⟩ hdf
          rw [hT] at h2
          have hmn : min (N : Int) ((F : Int) + 1) = (N : Int) := by omega
          have hmd : decide ((N : Int) < (F : Int) + 1) = true := decide_eq_true (by omega)
          have hwF := (nat_facts F (Nat.le_trans HFF.out (by decide))).2.2.2.1
          have hws := wrap_succ (Nat.le_trans HFF.out (by decide) : F ≤ 1000000)
          obtain ⟨a5, cap5, e5⟩ := ROwn.len h1.duo.own ENN.out
          have h1b := h1.duo.box
          rw [e5] at h1b
          obtain ⟨b0, -⟩ := cell_in h1.far 0 rfl
          obtain ⟨b1, -⟩ := cell_in h1b 0 rfl
          obtain ⟨b2, -⟩ := cell_in h1b 1 rfl
          obtain ⟨q0, -⟩ := cell_in h2 0 rfl
          have HSA := Lib.hid (by have := same_any h1.duo.tab h1.duo.own; rwa [e5] at this)
          have HE := Lib.hid (And.intro h1 (And.intro hdf hd0))
          clear h1 h2 h3 hT hdf hd0 h1b e5
          go_wp2_with fail
          refine (HSA.out).mono ?_
          rintro e w8 ⟨rfl, hg8⟩
          have HG8 := Lib.hid hg8
          clear hg8 b0 b1 b2 q0
          go_wp2_with fail
          refine (HW.out _).mono ?_
          rintro e w9 ⟨rfl, hg9⟩
          have HG9 := Lib.hid (grows_trans _ _ _ HG8.out hg9)
          clear hg9
          go_wp2_with fail
          obtain ⟨h1, hdf, hd0⟩ := HE.out
          have h1 := h1.grows HG9.out
          have hdf := box_grows hdf HG9.out
          refine ⟨by simp, .inl ⟨_, _, rfl, run_takeDeferred hdf, ?_⟩⟩
          refine ⟨.bool true, by simp [results, Try.results4, go_sem], rfl, ?_⟩
          have := (Rec.put (.deferred none) hd0 hdf rfl).below h1.below (by rw [EB.out]; exact Nat.le_refl _) (by have := box_lt I0.out.1.far; omega)
          rw [← EB.out] at this
          exact this
        · rintro d cd pre W7 hd0 ⟨rfl, h1, h2, h3, h4⟩ hdf
          rw [h3] at h2 h4
          have hmn : min (N : Int) ((F : Int) + 1) = ((F : Int) + 1) := by omega
          have hpl : ((F + 1 : Nat) : Int) = (F : Int) + 1 := rfl
          rw [hpl] at h2
          have hwF := (nat_facts F (Nat.le_trans HFF.out (by decide))).2.2.2.1
          have hws := wrap_succ (Nat.le_trans HFF.out (by decide) : F ≤ 1000000)
          obtain ⟨a5, cap5, e5⟩ := ROwn.len h1.duo.own ENN.out
          have h1b := h1.duo.box
          rw [e5] at h1b
          obtain ⟨b0, -⟩ := cell_in h1.far 0 rfl
          obtain ⟨b1, -⟩ := cell_in h1b 0 rfl
          obtain ⟨b2, -⟩ := cell_in h1b 1 rfl
          obtain ⟨q0, -⟩ := cell_in h2 0 rfl
          have HSA := Lib.hid (by have := same_any h1.duo.tab h1.duo.own; rwa [e5] at this)
          have HE := Lib.hid (And.intro h1 (And.intro hdf hd0))
          clear h1 h2 h3 h4 hdf hd0 h1b e5 hpl
          go_wp2_with fail
          all_goals (
            refine (HSA.out).mono ?_
            rintro e w8 ⟨rfl, hg8⟩
            have HG8 := Lib.hid hg8
            clear hg8 b0 b1 b2 q0
            go_wp2_with fail
            refine (HW.out _).mono ?_
            rintro e w9 ⟨rfl, hg9⟩
            have HG9 := Lib.hid (grows_trans _ _ _ HG8.out hg9)
            clear hg9
            go_wp2_with fail
            obtain ⟨h1, hdf, hd0⟩ := HE.out
            have h1 := h1.grows HG9.out
            have hdf := box_grows hdf HG9.out
            refine ⟨by simp, .inl ⟨_, _, rfl, run_takeDeferred hdf, ?_⟩⟩
            refine ⟨.bool true, by simp [results, Try.results4, go_sem], rfl, ?_⟩
            have := (Rec.put (.deferred none) hd0 hdf rfl).below h1.below (by rw [EB.out]; exact Nat.le_refl _) (by have := box_lt I0.out.1.far; omega)
            rw [← EB.out] at this
            exact this))
end
end Go.Proofs.Ytdmmceclohkkdaa
