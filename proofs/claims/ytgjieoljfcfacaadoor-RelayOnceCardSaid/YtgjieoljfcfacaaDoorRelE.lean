/- The document's relay: Check. -/
import Derived.Test.YtgjieoljfcfacaaDoorRelC
namespace Go.Proofs.YtgjieoljfcfacaaDoor
open Go.RowKit Go.Sort
set_option maxHeartbeats 4000000
set_option maxRecDepth 100000
abbrev TRR : TypeId := 41
/-- The document's relay as cells: the node, how many there are, the numbers, the names. -/
abbrev rdc (me n : Int) (B : BV) (v : Value) (M : Nat) : Array Value := #[.int .i64 me, .int .i64 n, .int .i64 B.b0, .int .i64 B.b1, .int .i64 B.b2, .int .i64 B.b3, .int .i64 B.b4, .int .i64 B.b5, .int .i64 B.b6, .int .i64 B.b7, .int .i64 B.b8, .int .i64 B.b9, .int .i64 B.b10, .int .i64 B.b11, .int .i64 B.b12, .int .i64 B.b13, v, .int .i64 (M : Int)]
abbrev rdv (me n : Int) (B : BV) (v : Value) (M : Nat) : Value := .agg (rdc me n B v M)
def DAt (w : World) (b : Nat) (me n : Int) (B : BV) (v : Value) (M : Nat) : Prop :=
  w.cell? ⟨b, 0, none⟩ = some (.int .i64 me) ∧ w.cell? ⟨b, 1, none⟩ = some (.int .i64 n) ∧ w.cell? ⟨b, 2, none⟩ = some (.int .i64 B.b0) ∧ w.cell? ⟨b, 3, none⟩ = some (.int .i64 B.b1) ∧ w.cell? ⟨b, 4, none⟩ = some (.int .i64 B.b2) ∧ w.cell? ⟨b, 5, none⟩ = some (.int .i64 B.b3) ∧ w.cell? ⟨b, 6, none⟩ = some (.int .i64 B.b4) ∧ w.cell? ⟨b, 7, none⟩ = some (.int .i64 B.b5) ∧ w.cell? ⟨b, 8, none⟩ = some (.int .i64 B.b6) ∧ w.cell? ⟨b, 9, none⟩ = some (.int .i64 B.b7) ∧ w.cell? ⟨b, 10, none⟩ = some (.int .i64 B.b8) ∧ w.cell? ⟨b, 11, none⟩ = some (.int .i64 B.b9) ∧ w.cell? ⟨b, 12, none⟩ = some (.int .i64 B.b10) ∧ w.cell? ⟨b, 13, none⟩ = some (.int .i64 B.b11) ∧ w.cell? ⟨b, 14, none⟩ = some (.int .i64 B.b12) ∧ w.cell? ⟨b, 15, none⟩ = some (.int .i64 B.b13) ∧ w.cell? ⟨b, 16, none⟩ = some (v) ∧ w.cell? ⟨b, 17, none⟩ = some (.int .i64 (M : Int)) ∧ b < w.heap.size
theorem dat_of {w : World} {b : Nat} {me n : Int} {B : BV} {v : Value} {M : Nat} {T : TypeId} (h : w.heap[b]? = some (.cells (rdc me n B v M) T (0, 0))) : DAt w b me n B v M :=
  ⟨(cell_in h 0 rfl).1, (cell_in h 1 rfl).1, (cell_in h 2 rfl).1, (cell_in h 3 rfl).1, (cell_in h 4 rfl).1, (cell_in h 5 rfl).1, (cell_in h 6 rfl).1, (cell_in h 7 rfl).1, (cell_in h 8 rfl).1, (cell_in h 9 rfl).1, (cell_in h 10 rfl).1, (cell_in h 11 rfl).1, (cell_in h 12 rfl).1, (cell_in h 13 rfl).1, (cell_in h 14 rfl).1, (cell_in h 15 rfl).1, (cell_in h 16 rfl).1, (cell_in h 17 rfl).1, box_lt h⟩
theorem other_cases (me n f : Int) : (otherB me n f = false ∧ f = me) ∨ (otherB me n f = false ∧ f ≠ me ∧ f < 0) ∨ (otherB me n f = false ∧ f ≠ me ∧ ¬ f < 0 ∧ n ≤ f) ∨ (otherB me n f = true ∧ f ≠ me ∧ ¬ f < 0 ∧ ¬ n ≤ f) := by
  unfold otherB
  by_cases h1 : f = me
  · exact .inl ⟨by simp [h1], h1⟩
  · by_cases h2 : f < 0
    · exact .inr (.inl ⟨by simp; omega, h1, h2⟩)
    · by_cases h3 : n ≤ f
      · exact .inr (.inr (.inl ⟨by simp; omega, h1, h2, h3⟩))
      · exact .inr (.inr (.inr ⟨by simp; omega, h1, h2, h3⟩))
theorem dcheck_any {w : World} {base M : Nat} {v : Value} {l : List DR} {me n : Int} {B : BV} (tol now : Int) (x : PW) (h : ROwn w base v l) (hm : l.length ≤ 10000) (hb : base ≤ w.heap.size) :
    Calls Tryd.prog 31 #[rdv me n B v M, .int .i64 tol, .int .i64 now, x.val] w (RetV w (.int .i64 (rchk (l.map tv) M me n B tol now x))) := by
  obtain ⟨ln, eln⟩ : ∃ ln, l.length = ln := ⟨_, rfl⟩
  obtain ⟨a, cap, rfl⟩ := ROwn.len h eln
  obtain ⟨p, ep⟩ : ∃ p, w.heap.size = p := ⟨_, rfl⟩
  have hq2 := two_new w (.cells (rdc me n B (.slice a ln cap) M) TRR) (.cells x.cells TPK)
  obtain ⟨W, eW⟩ : ∃ W, (w.alloc (.cells (rdc me n B (.slice a ln cap) M) TRR)).alloc (.cells x.cells TPK) = W := ⟨_, rfl⟩
  have hg : Grows w W := by rw [← eW]; exact bl_alloc (bl_alloc (Below.refl _ _) _) _
  rw [eW, ep] at hq2
  have HFL := Lib.hid (fun W => rflood_any x.kd W)
  have HCH := Lib.hid (fun W' => rcheck_any B.b0 B.b1 B.b2 B.b3 B.b4 B.b5 B.b6 B.b7 B.b8 B.b9 B.b10 B.b11 B.b12 B.b13 tol now x.kd x.k.t x.k.f x.k.s x.hp x.no x.dt x.ix x.tt x.st x.vl x.ba x.bl x.bc W')
  have HPU := Lib.hid (fun W' (hg : Grows w W') => rput_any (M := M) x.k 0 (own_grows h hg) hm (Nat.le_trans hb hg.size))
  have HG := Lib.hid hg
  have HQ := Lib.hid hq2
  obtain ⟨d0, d1, d2, d3, d4, d5, d6, d7, d8, d9, d10, d11, d12, d13, d14, d15, d16, d17, zd⟩ := dat_of hq2.1
  obtain ⟨x0, x1, x2, x3, x4, x5, x6, x7, x8, x9, x10, x11, x12⟩ := pat_of hq2.2
  obtain ⟨er, eer⟩ : ∃ er, rchk (l.map tv) M me n B tol now x = er := ⟨_, rfl⟩
  obtain ⟨cv, ecv⟩ : ∃ cv, chkI B.b0 B.b3 B.b1 tol now x.hp x.k.t = cv := ⟨_, rfl⟩
  obtain ⟨pe, epe⟩ : ∃ pe, putE (l.map tv) M x.k = pe := ⟨_, rfl⟩
  have h7 := fun h => eer.symm.trans (rchk_7 (m := l.map tv) (most := M) (me := me) (n := n) (tol := tol) (now := now) (B := B) (x := x) h)
  have h8 := fun h h2 => eer.symm.trans (rchk_8 (m := l.map tv) (most := M) (me := me) (n := n) (tol := tol) (now := now) (B := B) (x := x) h h2)
  have hcc := fun h h2 h3 => eer.symm.trans (rchk_c (m := l.map tv) (most := M) (me := me) (n := n) (tol := tol) (now := now) (B := B) (x := x) h h2 h3)
  have hpp := fun h h2 h3 => eer.symm.trans (rchk_p (m := l.map tv) (most := M) (me := me) (n := n) (tol := tol) (now := now) (B := B) (x := x) h h2 h3)
  rw [ecv] at HCH hcc hpp
  rw [epe] at HPU hpp
  have HP := Lib.hid (And.intro (And.intro h7 h8) (And.intro hcc hpp))
  have HOC := Lib.hid (other_cases me n x.k.f)
  rw [eer]
  clear h hg hq2 h7 h8 hcc hpp eer ecv epe hm hb eln
  simp only [rdv, rdc, PW.val, PW.cells, PW.body] at eW ⊢
  go_enter Tryd.func31, Tryd.ntmps31
  go_wp2_with fail
  refine (HFL.out _).mono ?_
  rintro e w1 ⟨rfl, rfl⟩
  cases hf : floodB x.kd with
  | false =>
    go_wp2_with fail
    go_ret
    exact ⟨ret_int (HP.out.1.1 hf).symm, HG.out⟩
  | true =>
    rcases HOC.out with ⟨ho, k1⟩ | ⟨ho, k1, k2⟩ | ⟨ho, k1, k2, k3⟩ | ⟨ho, k1, k2, k3⟩
    · have e1 : (x.k.f == me) = true := by simp [k1]
      have HO := Lib.hid ho
      clear ho k1
      go_wp2_with fail
      go_ret
      exact ⟨ret_int (HP.out.1.2 hf HO.out).symm, HG.out⟩
    · have e1 : (x.k.f == me) = false := by simp [k1]
      have HO := Lib.hid ho
      clear ho k1
      go_wp2_with fail
      go_ret
      exact ⟨ret_int (HP.out.1.2 hf HO.out).symm, HG.out⟩
    · have e1 : (x.k.f == me) = false := by simp [k1]
      have HO := Lib.hid ho
      clear ho k1
      go_wp2_with fail
      go_ret
      exact ⟨ret_int (HP.out.1.2 hf HO.out).symm, HG.out⟩
    · have e1 : (x.k.f == me) = false := by simp [k1]
      have HO := Lib.hid ho
      clear ho k1
      go_wp2_with fail
      refine (HCH.out _).mono ?_
      rintro e w2 ⟨rfl, hg2⟩
      have Q2 := Lib.hid (And.intro (box_grows HQ.out.1 hg2) (box_grows HQ.out.2 hg2))
      have G2 := Lib.hid (grows_trans _ _ _ HG.out hg2)
      clear hg2 eW d0 d1 d2 d3 d4 d5 d6 d7 d8 d9 d10 d11 d12 d13 d14 d15 d16 d17 zd x0 x1 x2 x3 x4 x5 x6 x7 x8 x9 x10 x11 x12
      obtain ⟨d0, d1, d2, d3, d4, d5, d6, d7, d8, d9, d10, d11, d12, d13, d14, d15, d16, d17, zd⟩ := dat_of Q2.out.1
      obtain ⟨x0, x1, x2, x3, x4, x5, x6, x7, x8, x9, x10, x11, x12⟩ := pat_of Q2.out.2
      by_cases hc : cv = 0
      · have hcb : (cv != 0) = false := by simp [hc]
        have hcb2 : (cv == 0) = true := by simp [hc]
        have HC := Lib.hid hc
        go_wp2_with fail
        refine (HPU.out _ G2.out).mono ?_
        rintro e w3 ⟨v3, rfl, hg3, ho3⟩
        obtain ⟨a3, c3, rfl⟩ := ROwn.len ho3 rfl
        have G3 := Lib.hid (grows_trans _ _ _ G2.out hg3)
        clear hg3 ho3
        simp only [dval]
        go_wp2_with fail
        go_ret
        exact ⟨ret_int (HP.out.2.2 hf HO.out HC.out).symm, grows_trans _ _ _ G3.out (by show Below w3.heap.size w3 _; (repeat (first | with_reducible exact Below.refl _ _ | with_reducible refine bl_alloc ?_ _ | ((with_reducible refine bl_set ?_ ?_ _); rotate_left; (first | exact Nat.le_refl _ | exact Nat.le_succ_of_le (Nat.le_refl _) | (simp only []; omega))) | with_reducible refine bl_drewN ?_ _ | with_reducible refine bl_drew ?_ | with_reducible refine bl_reg ?_ _)))⟩
      · have hcb : (cv != 0) = true := by simp [hc]
        have hcb2 : (cv == 0) = false := by simp [hc]
        go_wp2_with fail
        go_ret
        exact ⟨ret_int (HP.out.2.1 hf HO.out hc).symm, G2.out⟩
end Go.Proofs.YtgjieoljfcfacaaDoor
