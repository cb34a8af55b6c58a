/- Slices of int32 and of int16 that came in, opened. -/
import Derived.Test.YtihfcaconbcdjaaTrimW
namespace Go.Proofs.Ytihfcaconbcdjaa
open Go.ChangeShapes Go.WideShapes Go.ChangeAt Go.RowKit Go.Joins Go.Deep
set_option maxRecDepth 100000

theorem wf_i32 {x : Int} (h : (Lit.int .i32 x).wf = true) : -2147483648 ≤ x ∧ x ≤ 2147483647 := by
  simp [Lit.wf, IntKind.min, IntKind.max, IntKind.signed, IntKind.bits] at h; omega
theorem wf_i16 {x : Int} (h : (Lit.int .i16 x).wf = true) : -32768 ≤ x ∧ x ≤ 32767 := by
  simp [Lit.wf, IntKind.min, IntKind.max, IntKind.signed, IntKind.bits] at h; omega
section
variable {H : Type} {enc : TypeId × Value → H} {w : World} {base b0 : Nat} {spare : Nat → Bool} {held : Bool} {r : Reach} {v : Value} {d : DataW H} {p : List MemPlace}
theorem open_i32s (hv : Value.okWide Try.prog w r b0 35 v) (h : DataW.Trod enc Try.prog w base spare held 35 v d p) : ∃ l, NHas .i32 w v l ∧ R32 l := by
  obtain ⟨l, h1, h2⟩ := open_nums Try.underlying35 Try.underlying21 (by kernel_rfl) hv h
  exact ⟨l, h1, fun x hx => wf_i32 (h2 x hx)⟩
theorem open_i16s (hv : Value.okWide Try.prog w r b0 36 v) (h : DataW.Trod enc Try.prog w base spare held 36 v d p) : ∃ l, NHas .i16 w v l ∧ R16 l := by
  obtain ⟨l, h1, h2⟩ := open_nums Try.underlying36 Try.underlying37 (by kernel_rfl) hv h
  exact ⟨l, h1, fun x hx => wf_i16 (h2 x hx)⟩
end
end Go.Proofs.Ytihfcaconbcdjaa
