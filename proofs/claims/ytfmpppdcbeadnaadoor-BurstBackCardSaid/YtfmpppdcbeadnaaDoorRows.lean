/-
  NARROWER THAN 'FOR EVERY INPUT', by the rows' own cells (each row's printed sentence says how): BurstTurns: laid · BurstWidth: laid · BurstDiffers: laid · BurstBack: laid.
  DERIVED. THE GIVEN ROWS OF THIS SEAT. 4 by the template 'for every input the law returns true; each argument reads behind the call as it read before'; 0 by the template 'total and deterministic' (their statements: YtfmpppdcbeadnaaDoorTotals.lean).
  GIVEN WITH THE SEED: the statements are not yours to turn. If you find one false, say at which input.
  Laid BY PROGRAM, IN A SANDBOX (cutbox-rows.mjs): the forced cells as the released guide's own fill.sh prints them over the translation 45e674da63efaa76… (all of the seat's roots in one cut). By AI agents, Wed Nov 11 2026. No macro, syntax, notation, axiom, sorry.
-/
import Derived.Test.YtfmpppdcbeadnaaDoorChecked
import GoSem.Claim
import GoSem.ClaimJoined
import GoSem.ClaimMapViews
import Derived.JoinedTies
import Derived.KernelRfl
namespace Go.Proofs.YtfmpppdcbeadnaaDoor
/- THE CELL 'sum', in the pinned program and in every row, IS THE sha256 OF THE DUMP (.gsa) THAT YtfmpppdcbeadnaaDoorProg.lean LOADS. Nothing in Lean hashes anything: it is a label: what it is worth is what the hold of that sum in a sandbox is worth. -/
noncomputable def Tryd.pinned : Pinned := { name := "ytfmpppdcbeadnaadoor", sum := "45e674da63efaa7664efa02e5c4d6f6b5bc97d2074e794b2d5ff4d69373611c4", checked := Tryd.checked }
namespace Rows
def none {H : Type} : Left H := { results := [], args := [] }

/- WHAT THE LISTED PACKAGE-LEVEL VARIABLES READ AS WHEN THE CALL BEGINS. Each datum BY PROGRAM (the guide's laid-datum.mjs) off the statement by which the dump's own 'gosem.cut.vars' lays the variable. In a bare row this is a premise. The card (YtfmpppdcbeadnaaDoorCards.lean) ties it to the program's text. -/
def laid_math_bits_deBruijn32tab {H : Type} : DataW H := .agg [.lit (.int .u8 0), .lit (.int .u8 1), .lit (.int .u8 28), .lit (.int .u8 2), .lit (.int .u8 29), .lit (.int .u8 14), .lit (.int .u8 24), .lit (.int .u8 3), .lit (.int .u8 30), .lit (.int .u8 22), .lit (.int .u8 20), .lit (.int .u8 15), .lit (.int .u8 25), .lit (.int .u8 17), .lit (.int .u8 4), .lit (.int .u8 8), .lit (.int .u8 31), .lit (.int .u8 27), .lit (.int .u8 13), .lit (.int .u8 23), .lit (.int .u8 21), .lit (.int .u8 19), .lit (.int .u8 16), .lit (.int .u8 7), .lit (.int .u8 26), .lit (.int .u8 12), .lit (.int .u8 18), .lit (.int .u8 6), .lit (.int .u8 11), .lit (.int .u8 5), .lit (.int .u8 10), .lit (.int .u8 9)]

/-- 'angeluslaw15.BurstTurns': WHATEVER THE INPUT: true; the input reads as it did. -/
def burstTurnsSpec : ChangeSpec := { name := "burstTurns", fn := fun _ => fun
  | [d1, d2, d3] => { results := [.lit (.bool true)], args := [d1, d2, d3] }
  | _ => none }
def burstTurnsRow : OpenClaim := { program := "ytfmpppdcbeadnaadoor", sum := "45e674da63efaa7664efa02e5c4d6f6b5bc97d2074e794b2d5ff4d69373611c4", func := "angelus/angeluslaw15.BurstTurns", spec := "burstTurns", named := ["math/bits.deBruijn32tab"], apart := false, laid := [("math/bits.deBruijn32tab", laid_math_bits_deBruijn32tab)] }
def BurstTurnsSaid : Prop := burstTurnsRow.holds Tryd.pinned (OpenSpec.ofChange burstTurnsSpec)

/-- ITS FALSE NEIGHBOUR: 'it returns false'. Refute it at one input. -/
def burstTurnsWrong : ChangeSpec := { name := "burstTurns", fn := fun _ => fun
  | [d1, d2, d3] => { results := [.lit (.bool false)], args := [d1, d2, d3] }
  | _ => none }
def BurstTurnsWrongFalsely : Prop := burstTurnsRow.holds Tryd.pinned (OpenSpec.ofChange burstTurnsWrong)

/-- 'angeluslaw15.BurstWidth': WHATEVER THE INPUT: true; the input reads as it did. -/
def burstWidthSpec : ChangeSpec := { name := "burstWidth", fn := fun _ => fun
  | [d] => { results := [.lit (.bool true)], args := [d] }
  | _ => none }
def burstWidthRow : OpenClaim := { program := "ytfmpppdcbeadnaadoor", sum := "45e674da63efaa7664efa02e5c4d6f6b5bc97d2074e794b2d5ff4d69373611c4", func := "angelus/angeluslaw15.BurstWidth", spec := "burstWidth", named := ["math/bits.deBruijn32tab"], apart := false, laid := [("math/bits.deBruijn32tab", laid_math_bits_deBruijn32tab)] }
def BurstWidthSaid : Prop := burstWidthRow.holds Tryd.pinned (OpenSpec.ofChange burstWidthSpec)

/-- ITS FALSE NEIGHBOUR: 'it returns false'. Refute it at one input. -/
def burstWidthWrong : ChangeSpec := { name := "burstWidth", fn := fun _ => fun
  | [d] => { results := [.lit (.bool false)], args := [d] }
  | _ => none }
def BurstWidthWrongFalsely : Prop := burstWidthRow.holds Tryd.pinned (OpenSpec.ofChange burstWidthWrong)

/-- 'angeluslaw15.BurstDiffers': WHATEVER THE INPUT: true; the input reads as it did. -/
def burstDiffersSpec : ChangeSpec := { name := "burstDiffers", fn := fun _ => fun
  | [d1, d2] => { results := [.lit (.bool true)], args := [d1, d2] }
  | _ => none }
def burstDiffersRow : OpenClaim := { program := "ytfmpppdcbeadnaadoor", sum := "45e674da63efaa7664efa02e5c4d6f6b5bc97d2074e794b2d5ff4d69373611c4", func := "angelus/angeluslaw15.BurstDiffers", spec := "burstDiffers", named := ["math/bits.deBruijn32tab"], apart := false, laid := [("math/bits.deBruijn32tab", laid_math_bits_deBruijn32tab)] }
def BurstDiffersSaid : Prop := burstDiffersRow.holds Tryd.pinned (OpenSpec.ofChange burstDiffersSpec)

/-- ITS FALSE NEIGHBOUR: 'it returns false'. Refute it at one input. -/
def burstDiffersWrong : ChangeSpec := { name := "burstDiffers", fn := fun _ => fun
  | [d1, d2] => { results := [.lit (.bool false)], args := [d1, d2] }
  | _ => none }
def BurstDiffersWrongFalsely : Prop := burstDiffersRow.holds Tryd.pinned (OpenSpec.ofChange burstDiffersWrong)

/-- 'angeluslaw15.BurstBack': WHATEVER THE INPUT: true; the input reads as it did. -/
def burstBackSpec : ChangeSpec := { name := "burstBack", fn := fun _ => fun
  | [d1, d2, d3] => { results := [.lit (.bool true)], args := [d1, d2, d3] }
  | _ => none }
def burstBackRow : OpenClaim := { program := "ytfmpppdcbeadnaadoor", sum := "45e674da63efaa7664efa02e5c4d6f6b5bc97d2074e794b2d5ff4d69373611c4", func := "angelus/angeluslaw15.BurstBack", spec := "burstBack", named := ["math/bits.deBruijn32tab"], apart := false, laid := [("math/bits.deBruijn32tab", laid_math_bits_deBruijn32tab)] }
def BurstBackSaid : Prop := burstBackRow.holds Tryd.pinned (OpenSpec.ofChange burstBackSpec)

/-- ITS FALSE NEIGHBOUR: 'it returns false'. Refute it at one input. -/
def burstBackWrong : ChangeSpec := { name := "burstBack", fn := fun _ => fun
  | [d1, d2, d3] => { results := [.lit (.bool false)], args := [d1, d2, d3] }
  | _ => none }
def BurstBackWrongFalsely : Prop := burstBackRow.holds Tryd.pinned (OpenSpec.ofChange burstBackWrong)

/- THE SECOND FORM. 'bulk': how many values and letters a reading holds, each counted each time it is reached (what is shared counts as often as it is met; a slice's spare places count too). A statement '..UptoSaid' is the law's where the arguments, and the package variables that the reading takes, are together of bulk at most 1048576: NARROWER than '..Said'. Prove '..Said' where nothing that the law and all that it calls make is longer than what came in: it says more and counts as full. Else prove '..UptoSaid'. A law counts once. -/
mutual
def uptoBulk {H : Type} : DataW H → Nat
  | .lit (.string bytes) => bytes.length + 1
  | .lit _ => 1
  | .nil => 1
  | .ptr d => uptoBulk d + 1
  | .slice elems spare => uptoBulkAll elems + uptoBulkAll spare + 1
  | .agg parts => uptoBulkAll parts + 1
  | .iface _ d => uptoBulk d + 1
  | .map entries => uptoBulkEntries entries + 1
  | .held _ => 1
def uptoBulkAll {H : Type} : List (DataW H) → Nat
  | [] => 0
  | d :: r => uptoBulk d + uptoBulkAll r
def uptoBulkEntries {H : Type} : List (Lit × DataW H) → Nat
  | [] => 0
  | x :: r => uptoBulkEntry x + uptoBulkEntries r
def uptoBulkEntry {H : Type} : Lit × DataW H → Nat
  | (.string bytes, d) => bytes.length + uptoBulk d + 1
  | (_, d) => uptoBulk d + 1
 end
def uptoSmall : (H : Type) → List (DataW H) → Bool := fun _ ds => decide (uptoBulkAll ds ≤ 1048576)
def OpenSpec.upto (s : _root_.Go.ChangeSpec) : _root_.Go.OpenSpec := { _root_.Go.OpenSpec.ofChange s with cond := some uptoSmall }

/-- 'angeluslaw15.BurstTurns', WHERE WHAT IT READS IS OF BULK AT MOST 1048576: true; the input reads as it did. -/
def burstTurnsUptoRow : OpenClaim := { program := "ytfmpppdcbeadnaadoor", sum := "45e674da63efaa7664efa02e5c4d6f6b5bc97d2074e794b2d5ff4d69373611c4", func := "angelus/angeluslaw15.BurstTurns", spec := "burstTurns", named := ["math/bits.deBruijn32tab"], apart := false, laid := [("math/bits.deBruijn32tab", laid_math_bits_deBruijn32tab)], narrowed := true }
def BurstTurnsUptoSaid : Prop := burstTurnsUptoRow.holds Tryd.pinned (OpenSpec.upto burstTurnsSpec)

/-- 'angeluslaw15.BurstWidth', WHERE WHAT IT READS IS OF BULK AT MOST 1048576: true; the input reads as it did. -/
def burstWidthUptoRow : OpenClaim := { program := "ytfmpppdcbeadnaadoor", sum := "45e674da63efaa7664efa02e5c4d6f6b5bc97d2074e794b2d5ff4d69373611c4", func := "angelus/angeluslaw15.BurstWidth", spec := "burstWidth", named := ["math/bits.deBruijn32tab"], apart := false, laid := [("math/bits.deBruijn32tab", laid_math_bits_deBruijn32tab)], narrowed := true }
def BurstWidthUptoSaid : Prop := burstWidthUptoRow.holds Tryd.pinned (OpenSpec.upto burstWidthSpec)

/-- 'angeluslaw15.BurstDiffers', WHERE WHAT IT READS IS OF BULK AT MOST 1048576: true; the input reads as it did. -/
def burstDiffersUptoRow : OpenClaim := { program := "ytfmpppdcbeadnaadoor", sum := "45e674da63efaa7664efa02e5c4d6f6b5bc97d2074e794b2d5ff4d69373611c4", func := "angelus/angeluslaw15.BurstDiffers", spec := "burstDiffers", named := ["math/bits.deBruijn32tab"], apart := false, laid := [("math/bits.deBruijn32tab", laid_math_bits_deBruijn32tab)], narrowed := true }
def BurstDiffersUptoSaid : Prop := burstDiffersUptoRow.holds Tryd.pinned (OpenSpec.upto burstDiffersSpec)

/-- 'angeluslaw15.BurstBack', WHERE WHAT IT READS IS OF BULK AT MOST 1048576: true; the input reads as it did. -/
def burstBackUptoRow : OpenClaim := { program := "ytfmpppdcbeadnaadoor", sum := "45e674da63efaa7664efa02e5c4d6f6b5bc97d2074e794b2d5ff4d69373611c4", func := "angelus/angeluslaw15.BurstBack", spec := "burstBack", named := ["math/bits.deBruijn32tab"], apart := false, laid := [("math/bits.deBruijn32tab", laid_math_bits_deBruijn32tab)], narrowed := true }
def BurstBackUptoSaid : Prop := burstBackUptoRow.holds Tryd.pinned (OpenSpec.upto burstBackSpec)

end Rows
end Go.Proofs.YtfmpppdcbeadnaaDoor
