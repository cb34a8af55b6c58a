/- The walk of RelayNil. -/
import Derived.Test.YtgjieoljfcfacaaDoorRelW
import Derived.Test.YtgjieoljfcfacaaDoorLateB
namespace Go.Proofs.YtgjieoljfcfacaaDoor
open Go.RowKit Go.Sort
set_option maxHeartbeats 4000000
set_option maxRecDepth 100000
abbrev TRA : TypeId := 54
abbrev actC (q tol now : Int) (x : PW) (s : Nat) (f : Int) : Array Value := #[.int .u8 q, .int .i64 tol, .int .i64 now, .int .i64 x.kd, .int .i64 x.k.t, .int .i64 x.k.f, .int .u32 x.k.s, .int .i64 x.hp, .int .i64 x.no, .int .i64 x.dt, .int .i64 x.ix, .int .i64 x.tt, .int .i64 x.st, .int .i64 x.vl, .slice x.ba x.bl x.bc, .int .u64 (s : Int), .int .i64 f]
/-- The cells of a call. -/
def ActC (w : World) (b : Nat) (q tol now : Int) (x : PW) (s : Nat) (f : Int) : Prop :=
  w.cell? ⟨b, 0, none⟩ = some (.int .u8 q) ∧ w.cell? ⟨b, 1, none⟩ = some (.int .i64 tol) ∧ w.cell? ⟨b, 2, none⟩ = some (.int .i64 now) ∧ w.cell? ⟨b, 3, none⟩ = some (.int .i64 x.kd) ∧ w.cell? ⟨b, 4, none⟩ = some (.int .i64 x.k.t) ∧ w.cell? ⟨b, 5, none⟩ = some (.int .i64 x.k.f) ∧ w.cell? ⟨b, 6, none⟩ = some (.int .u32 x.k.s) ∧ w.cell? ⟨b, 7, none⟩ = some (.int .i64 x.hp) ∧ w.cell? ⟨b, 8, none⟩ = some (.int .i64 x.no) ∧ w.cell? ⟨b, 9, none⟩ = some (.int .i64 x.dt) ∧ w.cell? ⟨b, 10, none⟩ = some (.int .i64 x.ix) ∧ w.cell? ⟨b, 11, none⟩ = some (.int .i64 x.tt) ∧ w.cell? ⟨b, 12, none⟩ = some (.int .i64 x.st) ∧ w.cell? ⟨b, 13, none⟩ = some (.int .i64 x.vl) ∧ w.cell? ⟨b, 14, none⟩ = some (.slice x.ba x.bl x.bc) ∧ w.cell? ⟨b, 15, none⟩ = some (.int .u64 (s : Int)) ∧ w.cell? ⟨b, 16, none⟩ = some (.int .i64 f) ∧ b < w.heap.size
theorem actc_of {w : World} {b : Nat} {q tol now : Int} {x : PW} {s : Nat} {f : Int} (h : w.heap[b]? = some (.cells (actC q tol now x s f) TRA (0, 0))) : ActC w b q tol now x s f :=
  ⟨(cell_in h 0 rfl).1, (cell_in h 1 rfl).1, (cell_in h 2 rfl).1, (cell_in h 3 rfl).1, (cell_in h 4 rfl).1, (cell_in h 5 rfl).1, (cell_in h 6 rfl).1, (cell_in h 7 rfl).1, (cell_in h 8 rfl).1, (cell_in h 9 rfl).1, (cell_in h 10 rfl).1, (cell_in h 11 rfl).1, (cell_in h 12 rfl).1, (cell_in h 13 rfl).1, (cell_in h 14 rfl).1, (cell_in h 15 rfl).1, (cell_in h 16 rfl).1, box_lt h⟩
theorem relayNil_walk (q tol now : Int) (x : PW) (s : Nat) (f : Int) (hs : s < 18446744073709551616) (w : World) (hT : Laid w) :
    Calls Tryd.prog 6 #[.agg (actC q tol now x s f)] w (RetV w (.bool true)) := by
  obtain ⟨p, ep⟩ : ∃ p, w.heap.size = p := ⟨_, rfl⟩
  obtain ⟨W, eW⟩ : ∃ W, w.alloc (.cells (actC q tol now x s f) TRA) = W := ⟨_, rfl⟩
  have hg : Grows w W := by rw [← eW]; exact bl_alloc (Below.refl _ _) _
  have hb := heap_alloc_new w (.cells (actC q tol now x s f) TRA)
  rw [eW, ep] at hb
  have HB := Lib.hid hb
  have HG := Lib.hid hg
  have HT := Lib.hid hT
  have HON := Lib.hid (fun W => nonward_r s f x W)
  have HTK := Lib.hid (fun W => ntake_r tol now x W)
  have HCK := Lib.hid (fun W => ncheck_r tol now x W)
  have HSM := Lib.hid (fun W => rsame_any pz none 0 0 [] W ⟨rfl, .inl rfl⟩ ⟨rfl, .inl rfl⟩)
  have HEX := Lib.hid (fun W => nexp_r now W)
  have HLN := Lib.hid (fun W => nlen_r W)
  have HRM := Lib.hid (fun W => nroom_r W)
  have HGD := Lib.hid (fun W => good_any 0 0 0 0 0 0 0 0 0 0 0 0 0 0 none 0 0 W)
  have HWK := Lib.hid (fun W' (hg : Grows w W') => relayWorks_any W' (hT.grows hg))
  obtain ⟨a0, a1, a2, a3, a4, a5, a6, a7, a8, a9, a10, a11, a12, a13, a14, a15, a16, za⟩ := actc_of hb
  simp only [PW.val, PW.cells, PW.body, PW.at'] at HON HTK HCK HSM eW
  clear hb hg hT hs
  go_enter Tryd.func6, Tryd.ntmps6
  go_wp2_with fail
  refine (HON.out _).mono ?_
  rintro e w1 ⟨v1, rfl, hg1, ho1⟩
  obtain ⟨r1, c1, rfl⟩ := GOwn.len kindInt.len ho1 rfl
  have G1 := Lib.hid (grows_trans _ _ _ HG.out hg1)
  have B1 := Lib.hid (box_grows HB.out hg1)
  clear a0 a1 a2 a3 a4 a5 a6 a7 a8 a9 a10 a11 a12 a13 a14 a15 a16 za hg1 ho1
  obtain ⟨a0, a1, a2, a3, a4, a5, a6, a7, a8, a9, a10, a11, a12, a13, a14, a15, a16, za⟩ := actc_of B1.out
  simp only [List.length_nil]
  go_wp2_with fail
  have hd2 := heap_alloc_new w1 (.cells pz.cells TPK)
  have g12 : Grows w1 (w1.alloc (.cells pz.cells TPK)) := bl_alloc (Below.refl _ _) _
  refine (HTK.out _).mono ?_
  rintro e w3 ⟨rfl, hg3⟩
  have hg13 := grows_trans _ _ _ g12 hg3
  have B3 := Lib.hid (box_grows B1.out hg13)
  have D3 := Lib.hid (box_grows hd2 hg3)
  have G3 := Lib.hid (grows_trans _ _ _ G1.out hg13)
  obtain ⟨d, ed⟩ : ∃ d, w1.heap.size = d := ⟨_, rfl⟩
  rw [ed] at D3 ⊢
  clear a0 a1 a2 a3 a4 a5 a6 a7 a8 a9 a10 a11 a12 a13 a14 a15 a16 za hd2 g12 hg3 hg13 ed
  obtain ⟨a0, a1, a2, a3, a4, a5, a6, a7, a8, a9, a10, a11, a12, a13, a14, a15, a16, za⟩ := actc_of B3.out
  go_wp2_with fail
  refine (HCK.out _).mono ?_
  rintro e w4 ⟨rfl, hg4⟩
  have D4 := Lib.hid (box_grows D3.out hg4)
  have B4 := Lib.hid (box_grows B3.out hg4)
  have G4 := Lib.hid (grows_trans _ _ _ G3.out hg4)
  clear a0 a1 a2 a3 a4 a5 a6 a7 a8 a9 a10 a11 a12 a13 a14 a15 a16 za hg4
  obtain ⟨z0, z1, z2, z3, z4, z5, z6, z7, z8, z9, z10, z11, z12⟩ := pat_of D4.out
  go_wp2_with fail
  refine (HSM.out _).mono ?_
  rintro e w5 ⟨rfl, hg5⟩
  have B5 := Lib.hid (box_grows B4.out hg5)
  have G5 := Lib.hid (grows_trans _ _ _ G4.out hg5)
  clear z0 z1 z2 z3 z4 z5 z6 z7 z8 z9 z10 z11 z12 hg5
  obtain ⟨a0, a1, a2, a3, a4, a5, a6, a7, a8, a9, a10, a11, a12, a13, a14, a15, a16, za⟩ := actc_of B5.out
  go_wp2_with fail
  refine (HEX.out _).mono ?_
  rintro e w6 ⟨rfl, rfl⟩
  go_wp2_with fail
  refine (HLN.out _).mono ?_
  rintro e w6 ⟨rfl, rfl⟩
  go_wp2_with fail
  refine (HRM.out _).mono ?_
  rintro e w6 ⟨rfl, rfl⟩
  go_wp2_with fail
  refine (HGD.out _).mono ?_
  rintro e w6 ⟨b, hb, rfl, hg6⟩
  have hbf : b = false := by
    cases b with
    | false => rfl
    | true => have := (hb rfl).1; omega
  subst hbf
  have G6 := Lib.hid (grows_trans _ _ _ G5.out hg6)
  clear hb hg6
  go_wp2_with fail
  refine (HWK.out _ G6.out).mono ?_
  rintro e w7 ⟨rfl, hg7⟩
  have G7 := Lib.hid (grows_trans _ _ _ G6.out hg7)
  clear hg7
  go_wp2_with fail
  go_ret
  exact ⟨rfl, G7.out⟩
end Go.Proofs.YtgjieoljfcfacaaDoor
