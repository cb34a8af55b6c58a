/- A world that came in: a node, and the numbers; a packet that came in. -/
import Derived.Test.YtgjieoljfcfacaaDoorRelM
import Derived.Test.YtgjieoljfcfacaaDoorRelZ
namespace Go.Proofs.YtgjieoljfcfacaaDoor
open Go.RowKit Go.Sort Go.ChangeShapes Go.WideShapes Go.ChangeAt
set_option maxRecDepth 100000
theorem list18 {α : Type} {l : List α} (h : l.length = 18) : ∃ c0 c1 c2 c3 c4 c5 c6 c7 c8 c9 c10 c11 c12 c13 c14 c15 c16 c17, l = [c0, c1, c2, c3, c4, c5, c6, c7, c8, c9, c10, c11, c12, c13, c14, c15, c16, c17] := by
  match l, h with
  | [c0, c1, c2, c3, c4, c5, c6, c7, c8, c9, c10, c11, c12, c13, c14, c15, c16, c17], _ => exact ⟨c0, c1, c2, c3, c4, c5, c6, c7, c8, c9, c10, c11, c12, c13, c14, c15, c16, c17, rfl⟩
section
variable {H : Type} {enc : TypeId × Value → H} {w : World} {base b0 : Nat} {spare : Nat → Bool} {held : Bool} {r : Reach} {v : Value} {d : DataW H} {p : List MemPlace}
theorem open_rworld (hv : Value.okWide Tryd.prog w r b0 26 v) (h : DataW.Trod enc Tryd.prog w base spare held 26 v d p) :
    ∃ (n f dmin dmax rho slew rnd win att seen hist fly quota body : Int) (la : Option Addr) (ll lc : Nat) (me nn most : Int), v = rcfg n f dmin dmax rho slew rnd win att seen hist fly quota body la ll lc me nn most := by
  have hs0 := Tryd.underlying26
  obtain ⟨⟨cs⟩, rfl, hsz⟩ := okWide_struct hs0 hv
  obtain ⟨fuel, hf0⟩ := h
  have hl : cs.length = 18 := (field_len hs0 hf0).trans (by kernel_rfl)
  have hf0 : DataW.trod enc Tryd.prog w base spare held fuel 26 cs = some (d, p) := hf0
  obtain ⟨m1, y1, hf⟩ := field_at hs0 hf0 0 0 (tt := 24) rfl
  have hc3 : Tryd.prog.cellsOf 24 = 15 := by kernel_rfl
  simp only [hc3] at hf
  have hs := Tryd.underlying24
  obtain ⟨n, g0, _⟩ := field_int hs hf 0 0 rfl Tryd.underlying3 (by kernel_rfl)
  obtain ⟨la, ll, lc, g1⟩ := field_slice hs hf 1 1 rfl Tryd.underlying22 (by kernel_rfl)
  obtain ⟨f, g2, _⟩ := field_int hs hf 2 2 rfl Tryd.underlying3 (by kernel_rfl)
  obtain ⟨dmin, g3, _⟩ := field_int hs hf 3 3 rfl Tryd.underlying2 (by kernel_rfl)
  obtain ⟨dmax, g4, _⟩ := field_int hs hf 4 4 rfl Tryd.underlying2 (by kernel_rfl)
  obtain ⟨rho, g5, _⟩ := field_int hs hf 5 5 rfl Tryd.underlying2 (by kernel_rfl)
  obtain ⟨slew, g6, _⟩ := field_int hs hf 6 6 rfl Tryd.underlying2 (by kernel_rfl)
  obtain ⟨rnd, g7, _⟩ := field_int hs hf 7 7 rfl Tryd.underlying2 (by kernel_rfl)
  obtain ⟨win, g8, _⟩ := field_int hs hf 8 8 rfl Tryd.underlying2 (by kernel_rfl)
  obtain ⟨att, g9, _⟩ := field_int hs hf 9 9 rfl Tryd.underlying2 (by kernel_rfl)
  obtain ⟨seen, g10, _⟩ := field_int hs hf 10 10 rfl Tryd.underlying3 (by kernel_rfl)
  obtain ⟨hist, g11, _⟩ := field_int hs hf 11 11 rfl Tryd.underlying3 (by kernel_rfl)
  obtain ⟨fly, g12, _⟩ := field_int hs hf 12 12 rfl Tryd.underlying3 (by kernel_rfl)
  obtain ⟨quota, g13, _⟩ := field_int hs hf 13 13 rfl Tryd.underlying3 (by kernel_rfl)
  obtain ⟨body, g14, _⟩ := field_int hs hf 14 14 rfl Tryd.underlying3 (by kernel_rfl)
  obtain ⟨me, g15, _⟩ := field_int hs0 hf0 1 15 rfl Tryd.underlying3 (by kernel_rfl)
  obtain ⟨nn, g16, _⟩ := field_int hs0 hf0 2 16 rfl Tryd.underlying3 (by kernel_rfl)
  obtain ⟨most, g17, _⟩ := field_int hs0 hf0 3 17 rfl Tryd.underlying3 (by kernel_rfl)
  obtain ⟨c0, c1, c2, c3, c4, c5, c6, c7, c8, c9, c10, c11, c12, c13, c14, c15, c16, c17, rfl⟩ := list18 hl
  simp only [List.drop_zero, List.take_succ_cons, List.take_zero, List.getElem?_cons_zero, List.getElem?_cons_succ, Option.some.injEq] at g0 g1 g2 g3 g4 g5 g6 g7 g8 g9 g10 g11 g12 g13 g14 g15 g16 g17
  subst g0 g1 g2 g3 g4 g5 g6 g7 g8 g9 g10 g11 g12 g13 g14 g15 g16 g17
  exact ⟨n, f, dmin, dmax, rho, slew, rnd, win, att, seen, hist, fly, quota, body, la, ll, lc, me, nn, most, rfl⟩
/-- A packet that came in. -/
theorem open_rpacket (hv : Value.okWide Tryd.prog w r b0 32 v) (h : DataW.Trod enc Tryd.prog w base spare held 32 v d p) : ∃ (x : PW) (b : List Int), v = x.val ∧ BHas w x.ba x.bl x.bc b := by
  have hs := Tryd.underlying32
  obtain ⟨⟨cs⟩, rfl, hsz⟩ := okWide_struct hs hv
  obtain ⟨fuel, hf⟩ := h
  have hf : DataW.trod enc Tryd.prog w base spare held fuel 32 cs = some (d, p) := hf
  obtain ⟨x, b, rfl, hb, -⟩ := open_packet_cells hf
  exact ⟨x, b, rfl, hb⟩
end
end Go.Proofs.YtgjieoljfcfacaaDoor
