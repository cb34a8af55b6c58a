/- The walk of RollPlays. -/
import Derived.Test.YtgjieoljfcfacaaRollU
import Derived.Test.YtgjieoljfcfacaaRollW
import Derived.Test.YtgjieoljfcfacaaRollB
import Derived.Test.YtgjieoljfcfacaaRollO
import Derived.Deep.RegionLaw
namespace Go.Proofs.Ytgjieoljfcfacaa
open Go.RowKit Go.Sort Go.Maps
set_option maxHeartbeats 4000000
set_option maxRecDepth 100000
theorem one_any {w : World} {B b m M : Nat} {D : DataW Unit} {v : Value} {l : NL} (q no f : Int) (hq : 0 ≤ q ∧ q ≤ 255) (hno : (Lit.int .i64 no).wf = true) (h : RollAt w b m D M) (hr : RollR D l) (ho : NOwn w B v l) (hm : l.length ≤ 1000) (hBw : B ≤ w.heap.size) (hBb : B ≤ b) (hBm : B ≤ m) :
    Calls Try.prog 7 #[.pointer (some ⟨b, 0, none⟩), nval v M, .agg #[.int .u8 q, .int .i64 no, .int .i64 f]] w (OneTo w B b m M l) := by
  rcases five_of hq with hs | hs | hs | hs | hs
  · exact one_put q no f (.inl hs) hno h hr ho hm hBw hBb hBm
  · exact one_put q no f (.inr (.inl hs)) hno h hr ho hm hBw hBb hBm
  · exact one_put q no f (.inr (.inr hs)) hno h hr ho hm hBw hBb hBm
  · by_cases hmx : no = 9223372036854775807
    · exact one_take_max q no f hs hno hmx h hr ho hm hBw
    · exact one_take q no f hs hno hmx h hr ho hm hBw
  · exact one_drop q no f hs hno h hr ho hm hBw
/-- A roll, the document's notes, and the box that holds them. -/
structure Duo (W : World) (B b m : Nat) (D : DataW Unit) (p M : Nat) (v : Value) (l : NL) : Prop where
  roll : RollAt W b m D M
  rel : RollR D l
  own : NOwn W B v l
  box : W.heap[p]? = some (.cells #[v, .int .i64 (M : Int)] TRD (0, 0))
section
variable {w W W' : World} {B b m p M : Nat} {D D' : DataW Unit} {v v' : Value} {l l' : NL}
theorem Duo.grows (h : Duo W B b m D p M v l) (hg : Grows W W') : Duo W' B b m D p M v l := ⟨h.roll.grows hg, h.rel, own_grows h.own hg, box_grows h.box hg⟩
theorem Duo.one {e : Ending} (h : Duo W B b m D p M v l) (hB : w.heap.size = B) (hBm : B ≤ m) (hg : Grows w W) (ho : OneTo W B b m M l e W') :
    ∃ D' a n c l', e = .returned (.tuple #[nval (.slice a n c) M, .bool true]) ∧ RollAt W' b m D' M ∧ RollR D' l' ∧ NOwn W' B (.slice a n c) l' ∧ l'.length ≤ l.length + 1 ∧ W'.heap[p]? = some (.cells #[v, .int .i64 (M : Int)] TRD (0, 0)) ∧ Grows w W' := by
  obtain ⟨D', a, n, c, l', rfl, h1, h2, h3, h4, h5⟩ := ho
  exact ⟨D', a, n, c, l', rfl, h1, h2, h3, h4, box_map h.box h.roll.own h5, grows_of_grownBy hg h5 fun k hk => by cases hk; rw [hB]; exact hBm⟩
theorem Duo.next (hp : p ≠ b) (hpm : p ≠ m) (hpw : w.heap.size ≤ p) (h1 : RollAt W b m D M) (h2 : RollR D l) (h3 : NOwn W B v' l) (h4 : W.heap[p]? = some (.cells #[v, .int .i64 (M : Int)] TRD (0, 0))) (hg : Grows w W) :
    Duo ((W.setCell ⟨p, 0, none⟩ v').setCell ⟨p, 1, none⟩ (.int .i64 (M : Int))) B b m D p M v' l ∧ Grows w ((W.setCell ⟨p, 0, none⟩ v').setCell ⟨p, 1, none⟩ (.int .i64 (M : Int))) := by
  obtain ⟨h5, hc⟩ := box2_set (u0 := v') (u1 := .int .i64 (M : Int)) h4
  have hgs : W.grownBy ((W.setCell ⟨p, 0, none⟩ v').setCell ⟨p, 1, none⟩ (.int .i64 (M : Int))) (some p) := ⟨hc.os, hc.tape, hc.output, hc.size, fun k hk hne => hc.block k hk fun e => hne (by rw [e])⟩
  refine ⟨⟨h1.kept hgs (fun e => hp (by injection e with e; exact e.symm)) (fun e => hpm (by injection e with e; exact e.symm)), h2, hc.own h3 (fun k hk e => ?_), h5⟩, grows_of_grownBy hg hgs fun k hk => by cases hk; exact hpw⟩
  obtain ⟨cur, hcur⟩ := gown_ty h3 hk
  rw [e, h4] at hcur
  injection hcur with hcur
  injection hcur with _ hcur
  exact absurd hcur (by decide)
end
theorem wf_u8' {n : Int} (h : (Lit.int .u8 n).wf = true) : 0 ≤ n ∧ n ≤ 255 := by
  simp [Lit.wf, IntKind.min, IntKind.max, IntKind.signed, IntKind.bits] at h; omega
theorem ActsAt.len {w : World} {v : Value} {l : List (Int × Int × Int)} {n : Nat} (h : ActsAt w v l) (hn : l.length = n) : ∃ a cap, v = .slice a n cap := by
  subst hn
  rcases h with ⟨rfl, a, cap, rfl⟩ | ⟨b, o, cap, rfl, _⟩
  · exact ⟨a, cap, rfl⟩
  · exact ⟨_, cap, rfl⟩
section
attribute [-go_sem] run_eql_struct run_neq_struct
theorem rollPlays_walk (most : Int) {v : Value} {l : List (Int × Int × Int)} {w : World} (h : ActsAt w v l) : Calls Try.prog 3 #[.int .i64 most, v] w (RetV w (.bool true)) := by
  have HN := Lib.hid (fun W => rnew_most most W)
  have HD := Lib.hid (fun W => nnew_any most W)
  have HW := Lib.hid (fun W => rollWorks_any W)
  obtain ⟨n, en⟩ : ∃ n, l.length = n := ⟨_, rfl⟩
  obtain ⟨a, cap, rfl⟩ := h.len en
  obtain ⟨M, eM⟩ : ∃ M, mostO most = M := ⟨_, rfl⟩
  rw [eM] at HN HD
  have HH := Lib.hid h
  have EN := Lib.hid en
  obtain ⟨B, eB⟩ : ∃ B, w.heap.size = B := ⟨_, rfl⟩
  have EB := Lib.hid eB
  clear h en eM
  go_enter Try.func3, Try.ntmps3
  go_wp2_with fail
  refine (HN.out _).mono ?_
  rintro e w1 ⟨rfl, ht1, hg1⟩
  rw [eB] at ht1
  have HT1 := Lib.hid ht1
  have HG1 := Lib.hid hg1
  clear ht1 hg1
  go_wp2_with fail
  refine (HD.out _).mono ?_
  rintro e w2 ⟨rfl, hg2⟩
  have HG2 := Lib.hid hg2
  clear hg2
  obtain ⟨w3, e3⟩ : ∃ w3, w2.alloc (.cells #[.slice none 0 0, .int .i64 (M : Int)] TRD) = w3 := ⟨_, rfl⟩
  obtain ⟨p, ep⟩ : ∃ p, w2.heap.size = p := ⟨_, rfl⟩
  have g3 : Grows w2 w3 := by rw [← e3]; exact bl_alloc (Below.refl _ _) _
  have hd3 : Duo w3 B (B + 1) B (.map []) p M (.slice none 0 0) [] := by
    have h1 := HT1.out.grows HG2.out
    have h2 := heap_alloc_new w2 (.cells #[.slice none 0 0, .int .i64 (M : Int)] TRD)
    rw [e3, ep] at h2
    exact ⟨h1.grows g3, RollR.nil, World.ownsRow_nil _ _ _ _, h2⟩
  have D3 := Lib.hid hd3
  have G3 := Lib.hid (grows_trans _ _ _ HG1.out (grows_trans _ _ _ HG2.out g3))
  have HBp := Lib.hid (show B + 1 < p by
    have h1 := cell_lt (HT1.out.grows HG2.out).c0
    rwa [ep] at h1)
  have E3 := Lib.hid (And.intro e3 ep)
  obtain ⟨c0, -⟩ := cell_in hd3.box 0 rfl
  obtain ⟨c1, -⟩ := cell_in hd3.box 1 rfl
  have z0 := box_lt hd3.box
  clear e3 ep g3 hd3
  simp only [nval]
  go_wp2_with fail
  rw [E3.out.1, E3.out.2]
  clear E3
  go_wp2_with fail
  clear c0 c1 z0
  go_loopw [7, 8] (fun okv iv wr => ∃ (i : Nat) (D : DataW Unit) (vw : Value) (l' : NL), okv = .bool true ∧ iv = .int .i64 (i : Int) ∧ i ≤ n ∧ i ≤ 50 ∧ l'.length ≤ i ∧ Duo wr B (B + 1) B D p M vw l' ∧ Grows w wr) (fun _ iv _ => 50 - (intOf iv).toNat)
  case atStart => exact ⟨0, _, _, _, rfl, rfl, Nat.zero_le _, Nat.zero_le _, Nat.le_refl _, D3.out, G3.out⟩
  case round =>
    obtain ⟨i, D, vw, l', rfl, rfl, hi, hi60, hli, hd, hg⟩ := hrel
    have D0 := Lib.hid hd
    have GR := Lib.hid hg
    have HLI := Lib.hid hli
    clear hd hg hli
    by_cases hlt : i < n ∧ i < 50
    · obtain ⟨hin, h60⟩ := hlt
      have hnl : i < l.length := by rw [EN.out]; exact hin
      rcases HH.out with ⟨rfl, _⟩ | ⟨g, o, c', he, hml, hgl, hat⟩
      · simp at hnl
      rw [EN.out] at he
      simp only [Value.slice.injEq, true_and] at he
      obtain ⟨rfl, rfl⟩ := he
      obtain ⟨p0, p1, p2, w0, w1', -⟩ := hat i hnl
      obtain ⟨y, ey⟩ : ∃ y, l[i] = y := ⟨_, rfl⟩
      rw [ey] at p0 p1 p2 w0 w1'
      have p0 := box_cell_grows p0 GR.out
      have p1 := box_cell_grows p1 GR.out
      have p2 := box_cell_grows p2 GR.out
      have gd : Grows wr wr.drew := bl_drew (Below.refl _ _)
      have DD := Lib.hid (D0.out.grows gd)
      have GD := Lib.hid (grows_trans _ _ _ GR.out gd)
      have hone := one_any y.1 y.2.1 y.2.2 (wf_u8' w0) w1' DD.out.roll DD.out.rel DD.out.own (Nat.le_trans HLI.out (Nat.le_trans hi60 (by decide))) (by rw [← EB.out]; exact GD.out.size) (Nat.le_succ _) (Nat.le_refl _)
      have HONE := Lib.hid hone
      have hn6 : i ≤ 1000000 := Nat.le_trans hi60 (by decide)
      have HNF := Lib.hid (nat_facts i hn6)
      have HWS := Lib.hid (wrap_succ hn6)
      have H60 := Lib.hid h60
      have HIN := Lib.hid hin
      have hd1 : decide ((i : Int) < (n : Int)) = true := decide_eq_true (by omega)
      have hd2 : decide ((i : Int) < 50) = true := decide_eq_true (by omega)
      have hq1 : (i < n) = True := eq_true hin
      have hq2 : (i < 50) = True := eq_true h60
      have hq3 : (i : Int) < (n : Int) := Int.ofNat_lt.2 hin
      have hq4 : (i : Int) < 50 := by omega
      obtain ⟨c0, -⟩ := cell_in D0.out.box 0 rfl
      obtain ⟨c1, -⟩ := cell_in D0.out.box 1 rfl
      have z1 := box_lt D0.out.box
      clear hnl hat ey hone hn6 hi hi60 h60 hml hgl hin gd w0 w1'
      obtain ⟨j1, j2, j3, j4, j6⟩ := HNF.out
      go_wp2_with fail
      have mixed : Try.prog.follows .mixedOrders = true := by kernel_rfl
      refine wp_normal ?_
      go_region_law (first
        | (refine step_call (by rfl) 7 #[.tmp 24, .tmp 25, .tmp 29] #[23, TRD, TRA] (by rfl) #[.pointer (some ⟨B + 1, 0, none⟩), nval vw M, .agg #[.int .u8 y.1, .int .i64 y.2.1, .int .i64 y.2.2]] (by simp [Act.eval]) Try.f7 Try.func7 (by kernel_rfl) (by kernel_rfl) HONE.out ?_
           intro e w5 hto
           obtain ⟨D5, a5, n5, cap5, l5, rfl, ht5, hr5, ho5, hl5, hb5, hg5⟩ := Duo.one DD.out EB.out (Nat.le_refl _) GD.out hto
           refine ⟨_, rfl, ?_⟩
           have X5 := Lib.hid (And.intro ht5 (And.intro hr5 (And.intro ho5 (And.intro hb5 (And.intro hg5 hl5)))))
           clear c0 c1 z1
           obtain ⟨c0, c0f⟩ := cell_in hb5 0 rfl
           obtain ⟨c1, c1f⟩ := cell_in hb5 1 rfl
           have z1 := box_lt hb5
           clear hto ht5 hr5 ho5 hl5 hb5 hg5)
        | fail)
      all_goals (
        obtain ⟨ht5, hr5, ho5, hb5, hg5, hl5⟩ := X5.out
        obtain ⟨hd6, hg6⟩ := Duo.next (Nat.ne_of_gt HBp.out) (by have := HBp.out; omega) (by rw [EB.out]; have := HBp.out; omega) ht5 hr5 ho5 hb5 hg5
        obtain ⟨W6, e6⟩ : ∃ W6, (w5.setCell ⟨p, 0, none⟩ (.slice a5 n5 cap5)).setCell ⟨p, 1, none⟩ (.int .i64 (M : Int)) = W6 := ⟨_, rfl⟩
        rw [e6] at hd6 hg6
        have X6 := Lib.hid (And.intro hd6 (And.intro hg6 (Nat.le_trans hl5 (Nat.succ_le_succ HLI.out))))
        have HS6 := Lib.hid (rsame_any hd6.roll hd6.rel hd6.own (Nat.le_trans (Nat.le_trans hl5 (Nat.succ_le_succ HLI.out)) (Nat.le_trans H60.out (by decide))))
        clear c0 c0f c1 c1f z1 ht5 hr5 ho5 hb5 hg5 hl5 hg6 p0 p1 p2
        have c0 := (cell_in hd6.box 0 rfl).1
        have c1 := (cell_in hd6.box 1 rfl).1
        have z1 := box_lt hd6.box
        clear hd6
        simp only [e6]
        clear e6
        go_wp2_with fail
        refine (HS6.out).mono ?_
        rintro e w7 ⟨rfl, hg7⟩
        have X7 := Lib.hid (And.intro (X6.out.1.grows hg7) (grows_trans _ _ _ X6.out.2.1 hg7))
        clear hg7 c0 c1 z1
        go_wp2_with fail
        go_roundw)
      repeat (case rel => exact ⟨i + 1, D5, _, l5, rfl, rfl, HIN.out, H60.out, X6.out.2.2, X7.out.1, X7.out.2⟩)
      repeat (case measure => exact meas_succ H60.out)
    · have hex : (decide ((i : Int) < (n : Int)) = false ∧ (i < n) = False) ∨ (decide ((i : Int) < (n : Int)) = true ∧ (i < n) = True ∧ decide ((i : Int) < 50) = false ∧ (i < 50) = False) := by
        by_cases h1 : i < n
        · exact .inr ⟨decide_eq_true (by omega), eq_true h1, decide_eq_false (by omega), eq_false (by omega)⟩
        · exact .inl ⟨decide_eq_false (by omega), eq_false h1⟩
      clear hlt hi hi60
      rcases hex with ⟨hd1, hq1⟩ | ⟨hd1, hq1, hd2, hq2⟩
      all_goals
        go_wp2_with fail
        refine (HW.out _).mono ?_
        rintro e w3 ⟨rfl, hg3⟩
        have HG3 := Lib.hid (grows_trans _ _ _ GR.out hg3)
        clear hg3
        go_wp2_with fail
        go_ret
        exact ⟨rfl, HG3.out⟩
end
end Go.Proofs.Ytgjieoljfcfacaa
