/- The arguments of the statements of layer 30, opened: a configuration, a packet, two numbers. -/
import Derived.Test.YtfmpppdcbeadnaaLateD
import Derived.Test.YtfmpppdcbeadnaaOpen
namespace Go.Proofs.Ytfmpppdcbeadnaa
open Go.ChangeShapes Go.WideShapes Go.ChangeAt Go.RowKit Go.Joins
set_option maxRecDepth 100000
section
variable {H : Type} {enc : TypeId × Value → H} {w : World} {base b0 : Nat} {spare : Nat → Bool} {held : Bool} {r : Reach} {v : Value} {d : DataW H} {p : List MemPlace}

theorem open_cfg (hv : Value.okWide Try.prog w r b0 24 v) (h : DataW.Trod enc Try.prog w base spare held 24 v d p) :
    ∃ (n f dmin dmax rho slew rnd win att seen hist fly quota body : Int) (la : Option Addr) (ll lc : Nat), v = cfg n f dmin dmax rho slew rnd win att seen hist fly quota body la ll lc := by
  have hs := Try.underlying24
  obtain ⟨⟨cs⟩, rfl, hsz⟩ := okWide_struct hs hv
  obtain ⟨fuel, hf⟩ := h
  have hl : cs.length = 15 := (field_len hs hf).trans (by kernel_rfl)
  have hf : DataW.trod enc Try.prog w base spare held fuel 24 cs = some (d, p) := hf
  obtain ⟨n, g0, _⟩ := field_int hs hf 0 0 rfl Try.underlying3 (by kernel_rfl)
  obtain ⟨la, ll, lc, g1⟩ := field_slice hs hf 1 1 rfl Try.underlying22 (by kernel_rfl)
  obtain ⟨f, g2, _⟩ := field_int hs hf 2 2 rfl Try.underlying3 (by kernel_rfl)
  obtain ⟨dmin, g3, _⟩ := field_int hs hf 3 3 rfl Try.underlying2 (by kernel_rfl)
  obtain ⟨dmax, g4, _⟩ := field_int hs hf 4 4 rfl Try.underlying2 (by kernel_rfl)
  obtain ⟨rho, g5, _⟩ := field_int hs hf 5 5 rfl Try.underlying2 (by kernel_rfl)
  obtain ⟨slew, g6, _⟩ := field_int hs hf 6 6 rfl Try.underlying2 (by kernel_rfl)
  obtain ⟨rnd, g7, _⟩ := field_int hs hf 7 7 rfl Try.underlying2 (by kernel_rfl)
  obtain ⟨win, g8, _⟩ := field_int hs hf 8 8 rfl Try.underlying2 (by kernel_rfl)
  obtain ⟨att, g9, _⟩ := field_int hs hf 9 9 rfl Try.underlying2 (by kernel_rfl)
  obtain ⟨seen, g10, _⟩ := field_int hs hf 10 10 rfl Try.underlying3 (by kernel_rfl)
  obtain ⟨hist, g11, _⟩ := field_int hs hf 11 11 rfl Try.underlying3 (by kernel_rfl)
  obtain ⟨fly, g12, _⟩ := field_int hs hf 12 12 rfl Try.underlying3 (by kernel_rfl)
  obtain ⟨quota, g13, _⟩ := field_int hs hf 13 13 rfl Try.underlying3 (by kernel_rfl)
  obtain ⟨body, g14, _⟩ := field_int hs hf 14 14 rfl Try.underlying3 (by kernel_rfl)
  obtain ⟨c0, c1, c2, c3, c4, c5, c6, c7, c8, c9, c10, c11, c12, c13, c14, rfl⟩ := list15 hl
  simp only [List.getElem?_cons_zero, List.getElem?_cons_succ, Option.some.injEq] at g0 g1 g2 g3 g4 g5 g6 g7 g8 g9 g10 g11 g12 g13 g14
  subst g0 g1 g2 g3 g4 g5 g6 g7 g8 g9 g10 g11 g12 g13 g14
  exact ⟨n, f, dmin, dmax, rho, slew, rnd, win, att, seen, hist, fly, quota, body, la, ll, lc, rfl⟩

/-- What is known of the numbers of a packet. -/
def PktOk (t s : Int) : Prop := (Lit.int .i64 t).wf = true ∧ (Lit.int .u32 s).wf = true
theorem open_pkt (hv : Value.okWide Try.prog w r b0 31 v) (h : DataW.Trod enc Try.prog w base spare held 31 v d p) :
    ∃ (k t f s h no dst ix tot st vl : Int) (ba : Option Addr) (bl bc : Nat), v = pkt k t f s h no dst ix tot st vl ba bl bc := by
  have hs := Try.underlying31
  have hk := Try.underlying28
  obtain ⟨⟨cs⟩, rfl, hsz⟩ := okWide_struct hs hv
  obtain ⟨fuel, hf⟩ := h
  have hl : cs.length = 12 := (field_len hs hf).trans (by kernel_rfl)
  have hf : DataW.trod enc Try.prog w base spare held fuel 31 cs = some (d, p) := hf
  obtain ⟨m, y, hy⟩ := field_at hs hf 1 1 (tt := 28) rfl
  have hc3 : Try.prog.cellsOf 28 = 3 := by kernel_rfl
  simp only [hc3] at hy
  obtain ⟨k, g0, _⟩ := field_int hs hf 0 0 rfl Try.underlying3 (by kernel_rfl)
  obtain ⟨h, g2, _⟩ := field_int hs hf 2 4 rfl Try.underlying3 (by kernel_rfl)
  obtain ⟨no, g3, _⟩ := field_int hs hf 3 5 rfl Try.underlying2 (by kernel_rfl)
  obtain ⟨dst, g4, _⟩ := field_int hs hf 4 6 rfl Try.underlying3 (by kernel_rfl)
  obtain ⟨ix, g5, _⟩ := field_int hs hf 5 7 rfl Try.underlying3 (by kernel_rfl)
  obtain ⟨tot, g6, _⟩ := field_int hs hf 6 8 rfl Try.underlying3 (by kernel_rfl)
  obtain ⟨st, g7, _⟩ := field_int hs hf 7 9 rfl Try.underlying2 (by kernel_rfl)
  obtain ⟨vl, g8, _⟩ := field_int hs hf 8 10 rfl Try.underlying2 (by kernel_rfl)
  obtain ⟨ba, bl, bc, g9⟩ := field_slice hs hf 9 11 rfl Try.underlying29 (by kernel_rfl)
  obtain ⟨t, k0, _⟩ := field_int hk hy 0 0 rfl Try.underlying2 (by kernel_rfl)
  obtain ⟨f, k1, _⟩ := field_int hk hy 1 1 rfl Try.underlying3 (by kernel_rfl)
  obtain ⟨s, k2, _⟩ := field_int hk hy 2 2 rfl Try.underlying26 (by kernel_rfl)
  obtain ⟨c0, c1, c2, c3, c4, c5, c6, c7, c8, c9, c10, c11, rfl⟩ := list12 hl
  simp only [List.drop_succ_cons, List.drop_zero, List.take_succ_cons, List.take_zero, List.getElem?_cons_zero, List.getElem?_cons_succ, Option.some.injEq] at g0 g2 g3 g4 g5 g6 g7 g8 g9 k0 k1 k2
  subst g0 g2 g3 g4 g5 g6 g7 g8 g9 k0 k1 k2
  exact ⟨k, t, f, s, h, no, dst, ix, tot, st, vl, ba, bl, bc, rfl⟩

theorem open_two {ta te : TypeId} {k : IntKind} (ha : Try.prog.underlying ta = some (.array 2 te)) (he : Try.prog.underlying te = some (.int k)) (h1 : Try.prog.cellsOf te = 1) (h2 : Try.prog.cellsOf ta = 2)
    (hv : Value.okWide Try.prog w r b0 ta v) (h : DataW.Trod enc Try.prog w base spare held ta v d p) : ∃ x y : Int, v = .agg #[.int k x, .int k y] ∧ (Lit.int k x).wf = true ∧ (Lit.int k y).wf = true := by
  obtain ⟨⟨cs⟩, rfl⟩ := okWide_array ha hv
  obtain ⟨fuel, hf⟩ := h
  have hl : cs.length = 2 := (array_len ha hf).trans h2
  have hf : DataW.trod enc Try.prog w base spare held fuel ta cs = some (d, p) := hf
  obtain ⟨x, g0, w0⟩ := elem_int ha hf 0 (by omega) he h1
  obtain ⟨y, g1, w1⟩ := elem_int ha hf 1 (by omega) he h1
  obtain ⟨c0, c1, rfl⟩ := list2 hl
  simp only [List.getElem?_cons_zero, List.getElem?_cons_succ, Option.some.injEq] at g0 g1
  subst g0 g1
  exact ⟨x, y, rfl, w0, w1⟩
end
end Go.Proofs.Ytfmpppdcbeadnaa
