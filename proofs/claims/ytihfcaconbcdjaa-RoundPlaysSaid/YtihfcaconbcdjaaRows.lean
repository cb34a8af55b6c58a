/-
  No cell of these rows narrows 'for every input' (looked for: loops, veiled, ifaces, maps, wideKeys, modest, calm, conditions, laid).
  DERIVED. THE GIVEN ROWS OF THIS SEAT. 10 by the template 'for every input the law returns true; each argument reads behind the call as it read before'; 0 by the template 'total and deterministic' (their statements: YtihfcaconbcdjaaTotals.lean).
  GIVEN WITH THE SEED: the statements are not yours to turn. If you find one false, say at which input.
  Laid BY PROGRAM, IN A SANDBOX (cutbox-rows.mjs): the forced cells as the released guide's own fill.sh prints them over the translation 0f6d082e31a1c93f… (all of the seat's roots in one cut). By AI agents, Wed Nov 11 2026. No macro, syntax, notation, axiom, sorry.
-/
import Derived.Test.YtihfcaconbcdjaaChecked
import GoSem.Claim
import GoSem.ClaimJoined
import GoSem.ClaimMapViews
import Derived.JoinedTies
import Derived.KernelRfl
namespace Go.Proofs.Ytihfcaconbcdjaa
/- THE CELL 'sum', in the pinned program and in every row, IS THE sha256 OF THE DUMP (.gsa) THAT YtihfcaconbcdjaaProg.lean LOADS. Nothing in Lean hashes anything: it is a label: what it is worth is what the hold of that sum in a sandbox is worth. -/
noncomputable def Try.pinned : Pinned := { name := "ytihfcaconbcdjaa", sum := "0f6d082e31a1c93f0f7bb4a03ad9ed5aa4b340425f69d85c9ae57347f02c42ff", checked := Try.checked }
namespace Rows
def none {H : Type} : Left H := { results := [], args := [] }

/-- 'angeluslaw24.TrimTrims': WHATEVER THE INPUT: true; the input reads as it did. -/
def trimTrimsSpec : ChangeSpec := { name := "trimTrims", fn := fun _ => fun
  | [d1, d2] => { results := [.lit (.bool true)], args := [d1, d2] }
  | _ => none }
def trimTrimsRow : OpenClaim := { program := "ytihfcaconbcdjaa", sum := "0f6d082e31a1c93f0f7bb4a03ad9ed5aa4b340425f69d85c9ae57347f02c42ff", func := "angelus/angeluslaw24.TrimTrims", spec := "trimTrims", recurses := true, apart := false }
def TrimTrimsSaid : Prop := trimTrimsRow.holds Try.pinned (OpenSpec.ofChange trimTrimsSpec)

/-- ITS FALSE NEIGHBOUR: 'it returns false'. Refute it at one input. -/
def trimTrimsWrong : ChangeSpec := { name := "trimTrims", fn := fun _ => fun
  | [d1, d2] => { results := [.lit (.bool false)], args := [d1, d2] }
  | _ => none }
def TrimTrimsWrongFalsely : Prop := trimTrimsRow.holds Try.pinned (OpenSpec.ofChange trimTrimsWrong)

/-- 'angeluslaw24.TrimFaults': WHATEVER THE INPUT: true; the input reads as it did. -/
def trimFaultsSpec : ChangeSpec := { name := "trimFaults", fn := fun _ => fun
  | [d1, d2] => { results := [.lit (.bool true)], args := [d1, d2] }
  | _ => none }
def trimFaultsRow : OpenClaim := { program := "ytihfcaconbcdjaa", sum := "0f6d082e31a1c93f0f7bb4a03ad9ed5aa4b340425f69d85c9ae57347f02c42ff", func := "angelus/angeluslaw24.TrimFaults", spec := "trimFaults", recurses := true, apart := false }
def TrimFaultsSaid : Prop := trimFaultsRow.holds Try.pinned (OpenSpec.ofChange trimFaultsSpec)

/-- ITS FALSE NEIGHBOUR: 'it returns false'. Refute it at one input. -/
def trimFaultsWrong : ChangeSpec := { name := "trimFaults", fn := fun _ => fun
  | [d1, d2] => { results := [.lit (.bool false)], args := [d1, d2] }
  | _ => none }
def TrimFaultsWrongFalsely : Prop := trimFaultsRow.holds Try.pinned (OpenSpec.ofChange trimFaultsWrong)

/-- 'angeluslaw24.TrimMiddles': WHATEVER THE INPUT: true; the input reads as it did. -/
def trimMiddlesSpec : ChangeSpec := { name := "trimMiddles", fn := fun _ => fun
  | [d1, d2] => { results := [.lit (.bool true)], args := [d1, d2] }
  | _ => none }
def trimMiddlesRow : OpenClaim := { program := "ytihfcaconbcdjaa", sum := "0f6d082e31a1c93f0f7bb4a03ad9ed5aa4b340425f69d85c9ae57347f02c42ff", func := "angelus/angeluslaw24.TrimMiddles", spec := "trimMiddles", recurses := true, apart := false }
def TrimMiddlesSaid : Prop := trimMiddlesRow.holds Try.pinned (OpenSpec.ofChange trimMiddlesSpec)

/-- ITS FALSE NEIGHBOUR: 'it returns false'. Refute it at one input. -/
def trimMiddlesWrong : ChangeSpec := { name := "trimMiddles", fn := fun _ => fun
  | [d1, d2] => { results := [.lit (.bool false)], args := [d1, d2] }
  | _ => none }
def TrimMiddlesWrongFalsely : Prop := trimMiddlesRow.holds Try.pinned (OpenSpec.ofChange trimMiddlesWrong)

/-- 'angeluslaw24.TrimNear': WHATEVER THE INPUT: true; the input reads as it did. -/
def trimNearSpec : ChangeSpec := { name := "trimNear", fn := fun _ => fun
  | [d1, d2, d3] => { results := [.lit (.bool true)], args := [d1, d2, d3] }
  | _ => none }
def trimNearRow : OpenClaim := { program := "ytihfcaconbcdjaa", sum := "0f6d082e31a1c93f0f7bb4a03ad9ed5aa4b340425f69d85c9ae57347f02c42ff", func := "angelus/angeluslaw24.TrimNear", spec := "trimNear", recurses := true, apart := false }
def TrimNearSaid : Prop := trimNearRow.holds Try.pinned (OpenSpec.ofChange trimNearSpec)

/-- ITS FALSE NEIGHBOUR: 'it returns false'. Refute it at one input. -/
def trimNearWrong : ChangeSpec := { name := "trimNear", fn := fun _ => fun
  | [d1, d2, d3] => { results := [.lit (.bool false)], args := [d1, d2, d3] }
  | _ => none }
def TrimNearWrongFalsely : Prop := trimNearRow.holds Try.pinned (OpenSpec.ofChange trimNearWrong)

/-- 'angeluslaw24.TrimSound': WHATEVER THE INPUT: true; the input reads as it did. -/
def trimSoundSpec : ChangeSpec := { name := "trimSound", fn := fun _ => fun
  | [d1, d2, d3] => { results := [.lit (.bool true)], args := [d1, d2, d3] }
  | _ => none }
def trimSoundRow : OpenClaim := { program := "ytihfcaconbcdjaa", sum := "0f6d082e31a1c93f0f7bb4a03ad9ed5aa4b340425f69d85c9ae57347f02c42ff", func := "angelus/angeluslaw24.TrimSound", spec := "trimSound", recurses := true, apart := false }
def TrimSoundSaid : Prop := trimSoundRow.holds Try.pinned (OpenSpec.ofChange trimSoundSpec)

/-- ITS FALSE NEIGHBOUR: 'it returns false'. Refute it at one input. -/
def trimSoundWrong : ChangeSpec := { name := "trimSound", fn := fun _ => fun
  | [d1, d2, d3] => { results := [.lit (.bool false)], args := [d1, d2, d3] }
  | _ => none }
def TrimSoundWrongFalsely : Prop := trimSoundRow.holds Try.pinned (OpenSpec.ofChange trimSoundWrong)

/-- 'angeluslaw25.RoundFirst': WHATEVER THE INPUT: true; the input reads as it did. -/
def roundFirstSpec : ChangeSpec := { name := "roundFirst", fn := fun _ => fun
  | [d1, d2] => { results := [.lit (.bool true)], args := [d1, d2] }
  | _ => none }
def roundFirstRow : OpenClaim := { program := "ytihfcaconbcdjaa", sum := "0f6d082e31a1c93f0f7bb4a03ad9ed5aa4b340425f69d85c9ae57347f02c42ff", func := "angelus/angeluslaw25.RoundFirst", spec := "roundFirst", recurses := true, apart := false }
def RoundFirstSaid : Prop := roundFirstRow.holds Try.pinned (OpenSpec.ofChange roundFirstSpec)

/-- ITS FALSE NEIGHBOUR: 'it returns false'. Refute it at one input. -/
def roundFirstWrong : ChangeSpec := { name := "roundFirst", fn := fun _ => fun
  | [d1, d2] => { results := [.lit (.bool false)], args := [d1, d2] }
  | _ => none }
def RoundFirstWrongFalsely : Prop := roundFirstRow.holds Try.pinned (OpenSpec.ofChange roundFirstWrong)

/-- 'angeluslaw25.RoundOrder': WHATEVER THE INPUT: true; the input reads as it did. -/
def roundOrderSpec : ChangeSpec := { name := "roundOrder", fn := fun _ => fun
  | [d1, d2, d3] => { results := [.lit (.bool true)], args := [d1, d2, d3] }
  | _ => none }
def roundOrderRow : OpenClaim := { program := "ytihfcaconbcdjaa", sum := "0f6d082e31a1c93f0f7bb4a03ad9ed5aa4b340425f69d85c9ae57347f02c42ff", func := "angelus/angeluslaw25.RoundOrder", spec := "roundOrder", recurses := true, apart := false }
def RoundOrderSaid : Prop := roundOrderRow.holds Try.pinned (OpenSpec.ofChange roundOrderSpec)

/-- ITS FALSE NEIGHBOUR: 'it returns false'. Refute it at one input. -/
def roundOrderWrong : ChangeSpec := { name := "roundOrder", fn := fun _ => fun
  | [d1, d2, d3] => { results := [.lit (.bool false)], args := [d1, d2, d3] }
  | _ => none }
def RoundOrderWrongFalsely : Prop := roundOrderRow.holds Try.pinned (OpenSpec.ofChange roundOrderWrong)

/-- 'angeluslaw25.RoundPlays': WHATEVER THE INPUT: true; the input reads as it did. -/
def roundPlaysSpec : ChangeSpec := { name := "roundPlays", fn := fun _ => fun
  | [d1, d2, d3] => { results := [.lit (.bool true)], args := [d1, d2, d3] }
  | _ => none }
def roundPlaysRow : OpenClaim := { program := "ytihfcaconbcdjaa", sum := "0f6d082e31a1c93f0f7bb4a03ad9ed5aa4b340425f69d85c9ae57347f02c42ff", func := "angelus/angeluslaw25.RoundPlays", spec := "roundPlays", recurses := true, apart := false }
def RoundPlaysSaid : Prop := roundPlaysRow.holds Try.pinned (OpenSpec.ofChange roundPlaysSpec)

/-- ITS FALSE NEIGHBOUR: 'it returns false'. Refute it at one input. -/
def roundPlaysWrong : ChangeSpec := { name := "roundPlays", fn := fun _ => fun
  | [d1, d2, d3] => { results := [.lit (.bool false)], args := [d1, d2, d3] }
  | _ => none }
def RoundPlaysWrongFalsely : Prop := roundPlaysRow.holds Try.pinned (OpenSpec.ofChange roundPlaysWrong)

/-- 'angeluslaw25.RoundNil': WHATEVER THE INPUT: true; the input reads as it did. -/
def roundNilSpec : ChangeSpec := { name := "roundNil", fn := fun _ => fun
  | [d1, d2] => { results := [.lit (.bool true)], args := [d1, d2] }
  | _ => none }
def roundNilRow : OpenClaim := { program := "ytihfcaconbcdjaa", sum := "0f6d082e31a1c93f0f7bb4a03ad9ed5aa4b340425f69d85c9ae57347f02c42ff", func := "angelus/angeluslaw25.RoundNil", spec := "roundNil", recurses := true, apart := false }
def RoundNilSaid : Prop := roundNilRow.holds Try.pinned (OpenSpec.ofChange roundNilSpec)

/-- ITS FALSE NEIGHBOUR: 'it returns false'. Refute it at one input. -/
def roundNilWrong : ChangeSpec := { name := "roundNil", fn := fun _ => fun
  | [d1, d2] => { results := [.lit (.bool false)], args := [d1, d2] }
  | _ => none }
def RoundNilWrongFalsely : Prop := roundNilRow.holds Try.pinned (OpenSpec.ofChange roundNilWrong)

/-- 'angeluslaw25.RoundWhen': WHATEVER THE INPUT: true; the input reads as it did. -/
def roundWhenSpec : ChangeSpec := { name := "roundWhen", fn := fun _ => fun
  | [d1, d2, d3] => { results := [.lit (.bool true)], args := [d1, d2, d3] }
  | _ => none }
def roundWhenRow : OpenClaim := { program := "ytihfcaconbcdjaa", sum := "0f6d082e31a1c93f0f7bb4a03ad9ed5aa4b340425f69d85c9ae57347f02c42ff", func := "angelus/angeluslaw25.RoundWhen", spec := "roundWhen", recurses := true, apart := false }
def RoundWhenSaid : Prop := roundWhenRow.holds Try.pinned (OpenSpec.ofChange roundWhenSpec)

/-- ITS FALSE NEIGHBOUR: 'it returns false'. Refute it at one input. -/
def roundWhenWrong : ChangeSpec := { name := "roundWhen", fn := fun _ => fun
  | [d1, d2, d3] => { results := [.lit (.bool false)], args := [d1, d2, d3] }
  | _ => none }
def RoundWhenWrongFalsely : Prop := roundWhenRow.holds Try.pinned (OpenSpec.ofChange roundWhenWrong)

/- THE SECOND FORM. 'bulk': how many values and letters a reading holds, each counted each time it is reached (what is shared counts as often as it is met; a slice's spare places count too). A statement '..UptoSaid' is the law's where the arguments, and the package variables that the reading takes, are together of bulk at most 1048576: NARROWER than '..Said'. Prove '..Said' where nothing that the law and all that it calls make is longer than what came in: it says more and counts as full. Else prove '..UptoSaid'. A law counts once. -/
mutual
def uptoBulk {H : Type} : DataW H → Nat
  | .lit (.string bytes) => bytes.length + 1
  | .lit _ => 1
  | .nil => 1
  | .ptr d => uptoBulk d + 1
  | .slice elems spare => uptoBulkAll elems + uptoBulkAll spare + 1
  | .agg parts => uptoBulkAll parts + 1
  | .iface _ d => uptoBulk d + 1
  | .map entries => uptoBulkEntries entries + 1
  | .held _ => 1
def uptoBulkAll {H : Type} : List (DataW H) → Nat
  | [] => 0
  | d :: r => uptoBulk d + uptoBulkAll r
def uptoBulkEntries {H : Type} : List (Lit × DataW H) → Nat
  | [] => 0
  | x :: r => uptoBulkEntry x + uptoBulkEntries r
def uptoBulkEntry {H : Type} : Lit × DataW H → Nat
  | (.string bytes, d) => bytes.length + uptoBulk d + 1
  | (_, d) => uptoBulk d + 1
 end
def uptoSmall : (H : Type) → List (DataW H) → Bool := fun _ ds => decide (uptoBulkAll ds ≤ 1048576)
def OpenSpec.upto (s : _root_.Go.ChangeSpec) : _root_.Go.OpenSpec := { _root_.Go.OpenSpec.ofChange s with cond := some uptoSmall }

/-- 'angeluslaw24.TrimTrims', WHERE WHAT IT READS IS OF BULK AT MOST 1048576: true; the input reads as it did. -/
def trimTrimsUptoRow : OpenClaim := { program := "ytihfcaconbcdjaa", sum := "0f6d082e31a1c93f0f7bb4a03ad9ed5aa4b340425f69d85c9ae57347f02c42ff", func := "angelus/angeluslaw24.TrimTrims", spec := "trimTrims", recurses := true, apart := false, narrowed := true }
def TrimTrimsUptoSaid : Prop := trimTrimsUptoRow.holds Try.pinned (OpenSpec.upto trimTrimsSpec)

/-- 'angeluslaw24.TrimFaults', WHERE WHAT IT READS IS OF BULK AT MOST 1048576: true; the input reads as it did. -/
def trimFaultsUptoRow : OpenClaim := { program := "ytihfcaconbcdjaa", sum := "0f6d082e31a1c93f0f7bb4a03ad9ed5aa4b340425f69d85c9ae57347f02c42ff", func := "angelus/angeluslaw24.TrimFaults", spec := "trimFaults", recurses := true, apart := false, narrowed := true }
def TrimFaultsUptoSaid : Prop := trimFaultsUptoRow.holds Try.pinned (OpenSpec.upto trimFaultsSpec)

/-- 'angeluslaw24.TrimMiddles', WHERE WHAT IT READS IS OF BULK AT MOST 1048576: true; the input reads as it did. -/
def trimMiddlesUptoRow : OpenClaim := { program := "ytihfcaconbcdjaa", sum := "0f6d082e31a1c93f0f7bb4a03ad9ed5aa4b340425f69d85c9ae57347f02c42ff", func := "angelus/angeluslaw24.TrimMiddles", spec := "trimMiddles", recurses := true, apart := false, narrowed := true }
def TrimMiddlesUptoSaid : Prop := trimMiddlesUptoRow.holds Try.pinned (OpenSpec.upto trimMiddlesSpec)

/-- 'angeluslaw24.TrimNear', WHERE WHAT IT READS IS OF BULK AT MOST 1048576: true; the input reads as it did. -/
def trimNearUptoRow : OpenClaim := { program := "ytihfcaconbcdjaa", sum := "0f6d082e31a1c93f0f7bb4a03ad9ed5aa4b340425f69d85c9ae57347f02c42ff", func := "angelus/angeluslaw24.TrimNear", spec := "trimNear", recurses := true, apart := false, narrowed := true }
def TrimNearUptoSaid : Prop := trimNearUptoRow.holds Try.pinned (OpenSpec.upto trimNearSpec)

/-- 'angeluslaw24.TrimSound', WHERE WHAT IT READS IS OF BULK AT MOST 1048576: true; the input reads as it did. -/
def trimSoundUptoRow : OpenClaim := { program := "ytihfcaconbcdjaa", sum := "0f6d082e31a1c93f0f7bb4a03ad9ed5aa4b340425f69d85c9ae57347f02c42ff", func := "angelus/angeluslaw24.TrimSound", spec := "trimSound", recurses := true, apart := false, narrowed := true }
def TrimSoundUptoSaid : Prop := trimSoundUptoRow.holds Try.pinned (OpenSpec.upto trimSoundSpec)

/-- 'angeluslaw25.RoundFirst', WHERE WHAT IT READS IS OF BULK AT MOST 1048576: true; the input reads as it did. -/
def roundFirstUptoRow : OpenClaim := { program := "ytihfcaconbcdjaa", sum := "0f6d082e31a1c93f0f7bb4a03ad9ed5aa4b340425f69d85c9ae57347f02c42ff", func := "angelus/angeluslaw25.RoundFirst", spec := "roundFirst", recurses := true, apart := false, narrowed := true }
def RoundFirstUptoSaid : Prop := roundFirstUptoRow.holds Try.pinned (OpenSpec.upto roundFirstSpec)

/-- 'angeluslaw25.RoundOrder', WHERE WHAT IT READS IS OF BULK AT MOST 1048576: true; the input reads as it did. -/
def roundOrderUptoRow : OpenClaim := { program := "ytihfcaconbcdjaa", sum := "0f6d082e31a1c93f0f7bb4a03ad9ed5aa4b340425f69d85c9ae57347f02c42ff", func := "angelus/angeluslaw25.RoundOrder", spec := "roundOrder", recurses := true, apart := false, narrowed := true }
def RoundOrderUptoSaid : Prop := roundOrderUptoRow.holds Try.pinned (OpenSpec.upto roundOrderSpec)

/-- 'angeluslaw25.RoundPlays', WHERE WHAT IT READS IS OF BULK AT MOST 1048576: true; the input reads as it did. -/
def roundPlaysUptoRow : OpenClaim := { program := "ytihfcaconbcdjaa", sum := "0f6d082e31a1c93f0f7bb4a03ad9ed5aa4b340425f69d85c9ae57347f02c42ff", func := "angelus/angeluslaw25.RoundPlays", spec := "roundPlays", recurses := true, apart := false, narrowed := true }
def RoundPlaysUptoSaid : Prop := roundPlaysUptoRow.holds Try.pinned (OpenSpec.upto roundPlaysSpec)

/-- 'angeluslaw25.RoundNil', WHERE WHAT IT READS IS OF BULK AT MOST 1048576: true; the input reads as it did. -/
def roundNilUptoRow : OpenClaim := { program := "ytihfcaconbcdjaa", sum := "0f6d082e31a1c93f0f7bb4a03ad9ed5aa4b340425f69d85c9ae57347f02c42ff", func := "angelus/angeluslaw25.RoundNil", spec := "roundNil", recurses := true, apart := false, narrowed := true }
def RoundNilUptoSaid : Prop := roundNilUptoRow.holds Try.pinned (OpenSpec.upto roundNilSpec)

/-- 'angeluslaw25.RoundWhen', WHERE WHAT IT READS IS OF BULK AT MOST 1048576: true; the input reads as it did. -/
def roundWhenUptoRow : OpenClaim := { program := "ytihfcaconbcdjaa", sum := "0f6d082e31a1c93f0f7bb4a03ad9ed5aa4b340425f69d85c9ae57347f02c42ff", func := "angelus/angeluslaw25.RoundWhen", spec := "roundWhen", recurses := true, apart := false, narrowed := true }
def RoundWhenUptoSaid : Prop := roundWhenUptoRow.holds Try.pinned (OpenSpec.upto roundWhenSpec)

end Rows
end Go.Proofs.Ytihfcaconbcdjaa
