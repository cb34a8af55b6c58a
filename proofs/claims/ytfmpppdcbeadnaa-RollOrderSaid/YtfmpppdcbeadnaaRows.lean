/-
  No cell of these rows narrows 'for every input' (looked for: loops, veiled, ifaces, maps, wideKeys, modest, calm, conditions, laid).
  DERIVED. THE GIVEN ROWS OF THIS SEAT. 6 by the template 'for every input the law returns true; each argument reads behind the call as it read before'; 0 by the template 'total and deterministic' (their statements: YtfmpppdcbeadnaaTotals.lean).
  GIVEN WITH THE SEED: the statements are not yours to turn. If you find one false, say at which input.
  Laid BY PROGRAM, IN A SANDBOX (cutbox-rows.mjs): the forced cells as the released guide's own fill.sh prints them over the translation 90be86344e9d2e68… (all of the seat's roots in one cut). By AI agents, Wed Nov 11 2026. No macro, syntax, notation, axiom, sorry.
-/
import Derived.Test.YtfmpppdcbeadnaaChecked
import GoSem.Claim
import GoSem.ClaimJoined
import GoSem.ClaimMapViews
import Derived.JoinedTies
import Derived.KernelRfl
namespace Go.Proofs.Ytfmpppdcbeadnaa
/- THE CELL 'sum', in the pinned program and in every row, IS THE sha256 OF THE DUMP (.gsa) THAT YtfmpppdcbeadnaaProg.lean LOADS. Nothing in Lean hashes anything: it is a label: what it is worth is what the hold of that sum in a sandbox is worth. -/
noncomputable def Try.pinned : Pinned := { name := "ytfmpppdcbeadnaa", sum := "90be86344e9d2e6803b693a0ceb3aa16b7836d0795428f977792ce3a030be6a9", checked := Try.checked }
namespace Rows
def none {H : Type} : Left H := { results := [], args := [] }

/-- 'angeluslaw30.LateChecks': WHATEVER THE INPUT: true; the input reads as it did. -/
def lateChecksSpec : ChangeSpec := { name := "lateChecks", fn := fun _ => fun
  | [d1, d2, d3] => { results := [.lit (.bool true)], args := [d1, d2, d3] }
  | _ => none }
def lateChecksRow : OpenClaim := { program := "ytfmpppdcbeadnaa", sum := "90be86344e9d2e6803b693a0ceb3aa16b7836d0795428f977792ce3a030be6a9", func := "angelus/angeluslaw30.LateChecks", spec := "lateChecks", apart := false }
def LateChecksSaid : Prop := lateChecksRow.holds Try.pinned (OpenSpec.ofChange lateChecksSpec)

/-- ITS FALSE NEIGHBOUR: 'it returns false'. Refute it at one input. -/
def lateChecksWrong : ChangeSpec := { name := "lateChecks", fn := fun _ => fun
  | [d1, d2, d3] => { results := [.lit (.bool false)], args := [d1, d2, d3] }
  | _ => none }
def LateChecksWrongFalsely : Prop := lateChecksRow.holds Try.pinned (OpenSpec.ofChange lateChecksWrong)

/-- 'angeluslaw30.LateOver': WHATEVER THE INPUT: true; the input reads as it did. -/
def lateOverSpec : ChangeSpec := { name := "lateOver", fn := fun _ => fun
  | [d1, d2, d3] => { results := [.lit (.bool true)], args := [d1, d2, d3] }
  | _ => none }
def lateOverRow : OpenClaim := { program := "ytfmpppdcbeadnaa", sum := "90be86344e9d2e6803b693a0ceb3aa16b7836d0795428f977792ce3a030be6a9", func := "angelus/angeluslaw30.LateOver", spec := "lateOver", apart := false }
def LateOverSaid : Prop := lateOverRow.holds Try.pinned (OpenSpec.ofChange lateOverSpec)

/-- ITS FALSE NEIGHBOUR: 'it returns false'. Refute it at one input. -/
def lateOverWrong : ChangeSpec := { name := "lateOver", fn := fun _ => fun
  | [d1, d2, d3] => { results := [.lit (.bool false)], args := [d1, d2, d3] }
  | _ => none }
def LateOverWrongFalsely : Prop := lateOverRow.holds Try.pinned (OpenSpec.ofChange lateOverWrong)

/-- 'angeluslaw30.LateUntil': WHATEVER THE INPUT: true; the input reads as it did. -/
def lateUntilSpec : ChangeSpec := { name := "lateUntil", fn := fun _ => fun
  | [d1, d2] => { results := [.lit (.bool true)], args := [d1, d2] }
  | _ => none }
def lateUntilRow : OpenClaim := { program := "ytfmpppdcbeadnaa", sum := "90be86344e9d2e6803b693a0ceb3aa16b7836d0795428f977792ce3a030be6a9", func := "angelus/angeluslaw30.LateUntil", spec := "lateUntil", apart := false }
def LateUntilSaid : Prop := lateUntilRow.holds Try.pinned (OpenSpec.ofChange lateUntilSpec)

/-- ITS FALSE NEIGHBOUR: 'it returns false'. Refute it at one input. -/
def lateUntilWrong : ChangeSpec := { name := "lateUntil", fn := fun _ => fun
  | [d1, d2] => { results := [.lit (.bool false)], args := [d1, d2] }
  | _ => none }
def LateUntilWrongFalsely : Prop := lateUntilRow.holds Try.pinned (OpenSpec.ofChange lateUntilWrong)

/-- 'angeluslaw30.LateMore': WHATEVER THE INPUT: true; the input reads as it did. -/
def lateMoreSpec : ChangeSpec := { name := "lateMore", fn := fun _ => fun
  | [d1, d2, d3] => { results := [.lit (.bool true)], args := [d1, d2, d3] }
  | _ => none }
def lateMoreRow : OpenClaim := { program := "ytfmpppdcbeadnaa", sum := "90be86344e9d2e6803b693a0ceb3aa16b7836d0795428f977792ce3a030be6a9", func := "angelus/angeluslaw30.LateMore", spec := "lateMore", apart := false }
def LateMoreSaid : Prop := lateMoreRow.holds Try.pinned (OpenSpec.ofChange lateMoreSpec)

/-- ITS FALSE NEIGHBOUR: 'it returns false'. Refute it at one input. -/
def lateMoreWrong : ChangeSpec := { name := "lateMore", fn := fun _ => fun
  | [d1, d2, d3] => { results := [.lit (.bool false)], args := [d1, d2, d3] }
  | _ => none }
def LateMoreWrongFalsely : Prop := lateMoreRow.holds Try.pinned (OpenSpec.ofChange lateMoreWrong)

/-- 'angeluslaw39.RollOrder': WHATEVER THE INPUT: true; the input reads as it did. -/
def rollOrderSpec : ChangeSpec := { name := "rollOrder", fn := fun _ => fun
  | [d] => { results := [.lit (.bool true)], args := [d] }
  | _ => none }
def rollOrderRow : OpenClaim := { program := "ytfmpppdcbeadnaa", sum := "90be86344e9d2e6803b693a0ceb3aa16b7836d0795428f977792ce3a030be6a9", func := "angelus/angeluslaw39.RollOrder", spec := "rollOrder", apart := false }
def RollOrderSaid : Prop := rollOrderRow.holds Try.pinned (OpenSpec.ofChange rollOrderSpec)

/-- ITS FALSE NEIGHBOUR: 'it returns false'. Refute it at one input. -/
def rollOrderWrong : ChangeSpec := { name := "rollOrder", fn := fun _ => fun
  | [d] => { results := [.lit (.bool false)], args := [d] }
  | _ => none }
def RollOrderWrongFalsely : Prop := rollOrderRow.holds Try.pinned (OpenSpec.ofChange rollOrderWrong)

/-- 'angeluslaw39.RollMost': WHATEVER THE INPUT: true; the input reads as it did. -/
def rollMostSpec : ChangeSpec := { name := "rollMost", fn := fun _ => fun
  | [d1, d2] => { results := [.lit (.bool true)], args := [d1, d2] }
  | _ => none }
def rollMostRow : OpenClaim := { program := "ytfmpppdcbeadnaa", sum := "90be86344e9d2e6803b693a0ceb3aa16b7836d0795428f977792ce3a030be6a9", func := "angelus/angeluslaw39.RollMost", spec := "rollMost", apart := false }
def RollMostSaid : Prop := rollMostRow.holds Try.pinned (OpenSpec.ofChange rollMostSpec)

/-- ITS FALSE NEIGHBOUR: 'it returns false'. Refute it at one input. -/
def rollMostWrong : ChangeSpec := { name := "rollMost", fn := fun _ => fun
  | [d1, d2] => { results := [.lit (.bool false)], args := [d1, d2] }
  | _ => none }
def RollMostWrongFalsely : Prop := rollMostRow.holds Try.pinned (OpenSpec.ofChange rollMostWrong)

/- THE SECOND FORM. 'bulk': how many values and letters a reading holds, each counted each time it is reached (what is shared counts as often as it is met; a slice's spare places count too). A statement '..UptoSaid' is the law's where the arguments, and the package variables that the reading takes, are together of bulk at most 1048576: NARROWER than '..Said'. Prove '..Said' where nothing that the law and all that it calls make is longer than what came in: it says more and counts as full. Else prove '..UptoSaid'. A law counts once. -/
mutual
def uptoBulk {H : Type} : DataW H → Nat
  | .lit (.string bytes) => bytes.length + 1
  | .lit _ => 1
  | .nil => 1
  | .ptr d => uptoBulk d + 1
  | .slice elems spare => uptoBulkAll elems + uptoBulkAll spare + 1
  | .agg parts => uptoBulkAll parts + 1
  | .iface _ d => uptoBulk d + 1
  | .map entries => uptoBulkEntries entries + 1
  | .held _ => 1
def uptoBulkAll {H : Type} : List (DataW H) → Nat
  | [] => 0
  | d :: r => uptoBulk d + uptoBulkAll r
def uptoBulkEntries {H : Type} : List (Lit × DataW H) → Nat
  | [] => 0
  | x :: r => uptoBulkEntry x + uptoBulkEntries r
def uptoBulkEntry {H : Type} : Lit × DataW H → Nat
  | (.string bytes, d) => bytes.length + uptoBulk d + 1
  | (_, d) => uptoBulk d + 1
 end
def uptoSmall : (H : Type) → List (DataW H) → Bool := fun _ ds => decide (uptoBulkAll ds ≤ 1048576)
def OpenSpec.upto (s : _root_.Go.ChangeSpec) : _root_.Go.OpenSpec := { _root_.Go.OpenSpec.ofChange s with cond := some uptoSmall }

/-- 'angeluslaw30.LateChecks', WHERE WHAT IT READS IS OF BULK AT MOST 1048576: true; the input reads as it did. -/
def lateChecksUptoRow : OpenClaim := { program := "ytfmpppdcbeadnaa", sum := "90be86344e9d2e6803b693a0ceb3aa16b7836d0795428f977792ce3a030be6a9", func := "angelus/angeluslaw30.LateChecks", spec := "lateChecks", apart := false, narrowed := true }
def LateChecksUptoSaid : Prop := lateChecksUptoRow.holds Try.pinned (OpenSpec.upto lateChecksSpec)

/-- 'angeluslaw30.LateOver', WHERE WHAT IT READS IS OF BULK AT MOST 1048576: true; the input reads as it did. -/
def lateOverUptoRow : OpenClaim := { program := "ytfmpppdcbeadnaa", sum := "90be86344e9d2e6803b693a0ceb3aa16b7836d0795428f977792ce3a030be6a9", func := "angelus/angeluslaw30.LateOver", spec := "lateOver", apart := false, narrowed := true }
def LateOverUptoSaid : Prop := lateOverUptoRow.holds Try.pinned (OpenSpec.upto lateOverSpec)

/-- 'angeluslaw30.LateUntil', WHERE WHAT IT READS IS OF BULK AT MOST 1048576: true; the input reads as it did. -/
def lateUntilUptoRow : OpenClaim := { program := "ytfmpppdcbeadnaa", sum := "90be86344e9d2e6803b693a0ceb3aa16b7836d0795428f977792ce3a030be6a9", func := "angelus/angeluslaw30.LateUntil", spec := "lateUntil", apart := false, narrowed := true }
def LateUntilUptoSaid : Prop := lateUntilUptoRow.holds Try.pinned (OpenSpec.upto lateUntilSpec)

/-- 'angeluslaw30.LateMore', WHERE WHAT IT READS IS OF BULK AT MOST 1048576: true; the input reads as it did. -/
def lateMoreUptoRow : OpenClaim := { program := "ytfmpppdcbeadnaa", sum := "90be86344e9d2e6803b693a0ceb3aa16b7836d0795428f977792ce3a030be6a9", func := "angelus/angeluslaw30.LateMore", spec := "lateMore", apart := false, narrowed := true }
def LateMoreUptoSaid : Prop := lateMoreUptoRow.holds Try.pinned (OpenSpec.upto lateMoreSpec)

/-- 'angeluslaw39.RollOrder', WHERE WHAT IT READS IS OF BULK AT MOST 1048576: true; the input reads as it did. -/
def rollOrderUptoRow : OpenClaim := { program := "ytfmpppdcbeadnaa", sum := "90be86344e9d2e6803b693a0ceb3aa16b7836d0795428f977792ce3a030be6a9", func := "angelus/angeluslaw39.RollOrder", spec := "rollOrder", apart := false, narrowed := true }
def RollOrderUptoSaid : Prop := rollOrderUptoRow.holds Try.pinned (OpenSpec.upto rollOrderSpec)

/-- 'angeluslaw39.RollMost', WHERE WHAT IT READS IS OF BULK AT MOST 1048576: true; the input reads as it did. -/
def rollMostUptoRow : OpenClaim := { program := "ytfmpppdcbeadnaa", sum := "90be86344e9d2e6803b693a0ceb3aa16b7836d0795428f977792ce3a030be6a9", func := "angelus/angeluslaw39.RollMost", spec := "rollMost", apart := false, narrowed := true }
def RollMostUptoSaid : Prop := rollMostUptoRow.holds Try.pinned (OpenSpec.upto rollMostSpec)

end Rows
end Go.Proofs.Ytfmpppdcbeadnaa
