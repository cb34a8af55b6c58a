/- The document's relay: Take, Expire, Onward. -/
import Derived.Test.YtgjieoljfcfacaaDoorRelE
import Derived.Test.YtgjieoljfcfacaaDoorNodW
import Derived.Test.YtgjieoljfcfacaaDoorStoreB
import Derived.Deep.RegionHeld3
namespace Go.Proofs.YtgjieoljfcfacaaDoor
open Go.RowKit Go.Sort
set_option maxHeartbeats 4000000
set_option maxRecDepth 100000
abbrev zB : BV := ⟨0, 0, 0, 0, 0, 0, 0, 0, 0, 0, 0, 0, 0, 0⟩
abbrev zrd : Array Value := #[.int .i64 0, .int .i64 0, .int .i64 0, .int .i64 0, .int .i64 0, .int .i64 0, .int .i64 0, .int .i64 0, .int .i64 0, .int .i64 0, .int .i64 0, .int .i64 0, .int .i64 0, .int .i64 0, .int .i64 0, .int .i64 0, .slice none 0 0, .int .i64 0]
/-- What a call leaves that gives back a relay of the document's. -/
def DTo (w : World) (base : Nat) (l : List DR) (M : Nat) (me n : Int) (B : BV) (R : Value → Value) (e : Ending) (w' : World) : Prop := ∃ a nn c, e = .returned (R (rdv me n B (.slice a nn c) M)) ∧ nn = l.length ∧ Grows w w' ∧ ROwn w' base (.slice a nn c) l
theorem row_ty {w : World} {base : Nat} {v : Value} {l : List DR} (h : ROwn w base v l) {j : Nat} (hj : v.ownBlock = some j) : ∃ cur, w.heap[j]? = some (.cells cur 131 (0, 0)) := ROwn.ty h hj
theorem rdc_one (me n : Int) (B : BV) (a : Option Addr) (ln c M : Nat) : ∀ u ∈ (rdc me n B (.slice a ln c) M).toList, u.oneCell' = true := by
  intro u hu
  simp only [List.mem_cons, List.not_mem_nil, or_false] at hu
  rcases hu with rfl | rfl | rfl | rfl | rfl | rfl | rfl | rfl | rfl | rfl | rfl | rfl | rfl | rfl | rfl | rfl | rfl | rfl <;> rfl
/-- .. none of whose cells is frozen. -/
def DFree (w : World) (b : Nat) : Prop := w.frozen? ⟨b, 0, none⟩ = false ∧ w.frozen? ⟨b, 1, none⟩ = false ∧ w.frozen? ⟨b, 2, none⟩ = false ∧ w.frozen? ⟨b, 3, none⟩ = false ∧ w.frozen? ⟨b, 4, none⟩ = false ∧ w.frozen? ⟨b, 5, none⟩ = false ∧ w.frozen? ⟨b, 6, none⟩ = false ∧ w.frozen? ⟨b, 7, none⟩ = false ∧ w.frozen? ⟨b, 8, none⟩ = false ∧ w.frozen? ⟨b, 9, none⟩ = false ∧ w.frozen? ⟨b, 10, none⟩ = false ∧ w.frozen? ⟨b, 11, none⟩ = false ∧ w.frozen? ⟨b, 12, none⟩ = false ∧ w.frozen? ⟨b, 13, none⟩ = false ∧ w.frozen? ⟨b, 14, none⟩ = false ∧ w.frozen? ⟨b, 15, none⟩ = false ∧ w.frozen? ⟨b, 16, none⟩ = false ∧ w.frozen? ⟨b, 17, none⟩ = false
def ZAt (w : World) (b : Nat) : Prop :=
  w.cell? ⟨b, 0, none⟩ = some (.int .i64 0) ∧ w.cell? ⟨b, 1, none⟩ = some (.int .i64 0) ∧ w.cell? ⟨b, 2, none⟩ = some (.int .i64 0) ∧ w.cell? ⟨b, 3, none⟩ = some (.int .i64 0) ∧ w.cell? ⟨b, 4, none⟩ = some (.int .i64 0) ∧ w.cell? ⟨b, 5, none⟩ = some (.int .i64 0) ∧ w.cell? ⟨b, 6, none⟩ = some (.int .i64 0) ∧ w.cell? ⟨b, 7, none⟩ = some (.int .i64 0) ∧ w.cell? ⟨b, 8, none⟩ = some (.int .i64 0) ∧ w.cell? ⟨b, 9, none⟩ = some (.int .i64 0) ∧ w.cell? ⟨b, 10, none⟩ = some (.int .i64 0) ∧ w.cell? ⟨b, 11, none⟩ = some (.int .i64 0) ∧ w.cell? ⟨b, 12, none⟩ = some (.int .i64 0) ∧ w.cell? ⟨b, 13, none⟩ = some (.int .i64 0) ∧ w.cell? ⟨b, 14, none⟩ = some (.int .i64 0) ∧ w.cell? ⟨b, 15, none⟩ = some (.int .i64 0) ∧ w.cell? ⟨b, 16, none⟩ = some (.slice none 0 0) ∧ w.cell? ⟨b, 17, none⟩ = some (.int .i64 0) ∧ b < w.heap.size
theorem zat_of {w : World} {b : Nat} {T : TypeId} (h : w.heap[b]? = some (.cells zrd T (0, 0))) : ZAt w b :=
  ⟨(cell_in h 0 rfl).1, (cell_in h 1 rfl).1, (cell_in h 2 rfl).1, (cell_in h 3 rfl).1, (cell_in h 4 rfl).1, (cell_in h 5 rfl).1, (cell_in h 6 rfl).1, (cell_in h 7 rfl).1, (cell_in h 8 rfl).1, (cell_in h 9 rfl).1, (cell_in h 10 rfl).1, (cell_in h 11 rfl).1, (cell_in h 12 rfl).1, (cell_in h 13 rfl).1, (cell_in h 14 rfl).1, (cell_in h 15 rfl).1, (cell_in h 16 rfl).1, (cell_in h 17 rfl).1, box_lt h⟩
theorem dfree_of {w : World} {b : Nat} {u0 u1 u2 u3 u4 u5 u6 u7 u8 u9 u10 u11 u12 u13 u14 u15 u16 u17 : Value} {T : TypeId} (h : w.heap[b]? = some (.cells #[u0, u1, u2, u3, u4, u5, u6, u7, u8, u9, u10, u11, u12, u13, u14, u15, u16, u17] T (0, 0))) : DFree w b :=
  ⟨(cell_in h 0 rfl).2, (cell_in h 1 rfl).2, (cell_in h 2 rfl).2, (cell_in h 3 rfl).2, (cell_in h 4 rfl).2, (cell_in h 5 rfl).2, (cell_in h 6 rfl).2, (cell_in h 7 rfl).2, (cell_in h 8 rfl).2, (cell_in h 9 rfl).2, (cell_in h 10 rfl).2, (cell_in h 11 rfl).2, (cell_in h 12 rfl).2, (cell_in h 13 rfl).2, (cell_in h 14 rfl).2, (cell_in h 15 rfl).2, (cell_in h 16 rfl).2, (cell_in h 17 rfl).2⟩
/-- The names' two cells are turned. -/
theorem d_names {w : World} {b : Nat} {me n : Int} {B : BV} {v v' : Value} {M : Nat} (h : w.heap[b]? = some (.cells (rdc me n B v M) TRR (0, 0))) :
    ((w.setCell ⟨b, 16, none⟩ v').setCell ⟨b, 17, none⟩ (.int .i64 (M : Int))).heap[b]? = some (.cells (rdc me n B v' M) TRR (0, 0)) ∧ Chg (fun j => j = b) w ((w.setCell ⟨b, 16, none⟩ v').setCell ⟨b, 17, none⟩ (.int .i64 (M : Int))) :=
  ⟨box_setj (j := 17) (box_setj (j := 16) h), Chg.setCell (S := fun i => i = b) (Chg.setCell (S := fun i => i = b) (Chg.refl _ _) _ (.inr rfl)) _ (.inr rfl)⟩
theorem row_box {w w' : World} {base b : Nat} {v : Value} {l : List DR} {cs : Array Value} {T : TypeId} (ho : ROwn w base v l) (h : w.heap[b]? = some (.cells cs T (0, 0))) (hc : Chg (fun j => j = b) w w') (hT : T ≠ 131 := by decide) : ROwn w' base v l :=
  hc.own ho fun j hj e => by
    obtain ⟨cur, hcur⟩ := row_ty ho hj
    rw [e, h] at hcur
    injection hcur with hcur
    injection hcur with _ hcur
    exact absurd hcur hT
theorem dexpire_any {w : World} {base M : Nat} {v : Value} {l : List DR} {me n : Int} {B : BV} (now : Int) (h : ROwn w base v l) (hm : l.length ≤ 10000) (hb : base ≤ w.heap.size) :
    Calls Tryd.prog 32 #[rdv me n B v M, .int .i64 now] w (DTo w base (l.filter (keepE now)) M me n B fun t => t) := by
  obtain ⟨ln, eln⟩ : ∃ ln, l.length = ln := ⟨_, rfl⟩
  obtain ⟨a, cap, rfl⟩ := ROwn.len h eln
  obtain ⟨b, ep⟩ : ∃ b, w.heap.size = b := ⟨_, rfl⟩
  have hq2 := two_new w (.cells (rdc me n B (.slice a ln cap) M) TRR) (.cells zrd TRR)
  obtain ⟨W, eW⟩ : ∃ W, (w.alloc (.cells (rdc me n B (.slice a ln cap) M) TRR)).alloc (.cells zrd TRR) = W := ⟨_, rfl⟩
  have hg : Grows w W := by rw [← eW]; exact bl_alloc (bl_alloc (Below.refl _ _) _) _
  rw [eW, ep] at hq2
  have HEX := Lib.hid (rexpire_any (M := M) now (own_grows h hg) hm (Nat.le_trans hb hg.size))
  have HG := Lib.hid hg
  have HQ := Lib.hid hq2
  have EP := Lib.hid ep
  obtain ⟨d0, d1, d2, d3, d4, d5, d6, d7, d8, d9, d10, d11, d12, d13, d14, d15, d16, d17, zd⟩ := dat_of hq2.1
  clear h hg hq2 hm hb eln
  simp only [rdv, rdc] at eW ⊢
  go_enter Tryd.func32, Tryd.ntmps32
  go_wp2_with fail
  refine (HEX.out).mono ?_
  rintro e w1 ⟨v1, rfl, hg1, ho1⟩
  obtain ⟨a1, c1, rfl⟩ := ROwn.len ho1 rfl
  obtain ⟨n1, en1⟩ : ∃ n1, (l.filter (keepE now)).length = n1 := ⟨_, rfl⟩
  have EN1 := Lib.hid en1
  have h1 := box_grows HQ.out.1 hg1
  have h2 := box_grows HQ.out.2 hg1
  obtain ⟨h3, hc3⟩ := d_names (v' := .slice a1 n1 c1) h1
  rw [en1] at ho1 ⊢
  obtain ⟨w2, e2⟩ : ∃ w2, (w1.setCell ⟨b, 16, none⟩ (.slice a1 n1 c1)).setCell ⟨b, 17, none⟩ (.int .i64 (M : Int)) = w2 := ⟨_, rfl⟩
  rw [e2] at h3 hc3
  have h4 := box_chg h2 hc3 (show ¬ b + 1 = b by omega)
  have o4 : ROwn w2 base (.slice a1 n1 c1) (l.filter (keepE now)) := row_box (by rw [← en1]; rw [← en1] at ho1; exact ho1) h1 hc3
  have g4 : Grows w w2 := ((Chg.ofGrows (grows_trans _ _ _ HG.out hg1)).trans hc3).toGrows fun j hj e => by have := EP.out; omega
  have HX := Lib.hid (And.intro h4 (And.intro o4 g4))
  clear d0 d1 d2 d3 d4 d5 d6 d7 d8 d9 d10 d11 d12 d13 d14 d15 d16 d17 zd eW
  obtain ⟨p16, p16f⟩ := cell_in h1 16 rfl
  obtain ⟨p17, p17f⟩ := cell_in h1 17 rfl
  have zp := box_lt h1
  obtain ⟨d0, d1, d2, d3, d4, d5, d6, d7, d8, d9, d10, d11, d12, d13, d14, d15, d16, d17, zd⟩ := dat_of h3
  have H3 := Lib.hid h3
  clear h1 h2 h3 h4 hc3 o4 g4 hg1 ho1 en1
  simp only [dval]
  go_wp2_with (first | (refine wpList_load_box rfl 41 (.tmp 2) rfl b (rdc me n B (.slice a1 n1 c1) M) rfl (Tryd.isAgg41 _) (Tryd.sizeOf41 _) H3.out ?_) | (refine wpList_store_box rfl 41 (.tmp 4) (.tmp 10) rfl (b + 1) (rdc me n B (.slice a1 n1 c1) M) rfl rfl (Tryd.sizeOf41 _) HX.out.1 rfl (rdc_one _ _ _ _ _ _ _) ?_; intro w3 h3' c3))
  have o5 := row_box HX.out.2.1 HX.out.1 c3
  have g5 : Grows w w3 := ((Chg.ofGrows HX.out.2.2).trans c3).toGrows fun j hj e => by have := EP.out; omega
  exact bodyPost_ret (results_box Tryd.results32 rfl (Tryd.isAgg41 _) (Tryd.sizeOf41 _) h3') rfl ⟨a1, n1, c1, rfl, EN1.out.symm, g5, o5⟩
end Go.Proofs.YtgjieoljfcfacaaDoor
