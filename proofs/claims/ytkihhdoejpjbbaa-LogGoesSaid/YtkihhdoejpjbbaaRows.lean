/-
  No cell of these rows narrows 'for every input' (looked for: loops, veiled, ifaces, maps, wideKeys, modest, calm, conditions, laid).
  DERIVED. THE GIVEN ROWS OF THIS SEAT. 11 by the template 'for every input the law returns true; each argument reads behind the call as it read before'; 0 by the template 'total and deterministic' (their statements: YtkihhdoejpjbbaaTotals.lean).
  GIVEN WITH THE SEED: the statements are not yours to turn. If you find one false, say at which input.
  Laid BY PROGRAM, IN A SANDBOX (cutbox-rows.mjs): the forced cells as the released guide's own fill.sh prints them over the translation 1aa55f7be73de0e6… (all of the seat's roots in one cut). By AI agents, Wed Nov 11 2026. No macro, syntax, notation, axiom, sorry.
-/
import Derived.Test.YtkihhdoejpjbbaaChecked
import GoSem.Claim
import GoSem.ClaimJoined
import GoSem.ClaimMapViews
import Derived.JoinedTies
import Derived.KernelRfl
namespace Go.Proofs.Ytkihhdoejpjbbaa
/- THE CELL 'sum', in the pinned program and in every row, IS THE sha256 OF THE DUMP (.gsa) THAT YtkihhdoejpjbbaaProg.lean LOADS. Nothing in Lean hashes anything: it is a label: what it is worth is what the hold of that sum in a sandbox is worth. -/
noncomputable def Try.pinned : Pinned := { name := "ytkihhdoejpjbbaa", sum := "1aa55f7be73de0e647ff15130f49af931483fe671d7d88771971aa98e15ab2be", checked := Try.checked }
namespace Rows
def none {H : Type} : Left H := { results := [], args := [] }

/-- 'angeluslaw40.ViewInstalls': WHATEVER THE INPUT: true; the input reads as it did. -/
def viewInstallsSpec : ChangeSpec := { name := "viewInstalls", fn := fun _ => fun
  | [d] => { results := [.lit (.bool true)], args := [d] }
  | _ => none }
def viewInstallsRow : OpenClaim := { program := "ytkihhdoejpjbbaa", sum := "1aa55f7be73de0e647ff15130f49af931483fe671d7d88771971aa98e15ab2be", func := "angelus/angeluslaw40.ViewInstalls", spec := "viewInstalls", apart := false }
def ViewInstallsSaid : Prop := viewInstallsRow.holds Try.pinned (OpenSpec.ofChange viewInstallsSpec)

/-- ITS FALSE NEIGHBOUR: 'it returns false'. Refute it at one input. -/
def viewInstallsWrong : ChangeSpec := { name := "viewInstalls", fn := fun _ => fun
  | [d] => { results := [.lit (.bool false)], args := [d] }
  | _ => none }
def ViewInstallsWrongFalsely : Prop := viewInstallsRow.holds Try.pinned (OpenSpec.ofChange viewInstallsWrong)

/-- 'angeluslaw40.ViewSpans': WHATEVER THE INPUT: true; the input reads as it did. -/
def viewSpansSpec : ChangeSpec := { name := "viewSpans", fn := fun _ => fun
  | [d1, d2] => { results := [.lit (.bool true)], args := [d1, d2] }
  | _ => none }
def viewSpansRow : OpenClaim := { program := "ytkihhdoejpjbbaa", sum := "1aa55f7be73de0e647ff15130f49af931483fe671d7d88771971aa98e15ab2be", func := "angelus/angeluslaw40.ViewSpans", spec := "viewSpans", apart := false }
def ViewSpansSaid : Prop := viewSpansRow.holds Try.pinned (OpenSpec.ofChange viewSpansSpec)

/-- ITS FALSE NEIGHBOUR: 'it returns false'. Refute it at one input. -/
def viewSpansWrong : ChangeSpec := { name := "viewSpans", fn := fun _ => fun
  | [d1, d2] => { results := [.lit (.bool false)], args := [d1, d2] }
  | _ => none }
def ViewSpansWrongFalsely : Prop := viewSpansRow.holds Try.pinned (OpenSpec.ofChange viewSpansWrong)

/-- 'angeluslaw40.ViewIn': WHATEVER THE INPUT: true; the input reads as it did. -/
def viewInSpec : ChangeSpec := { name := "viewIn", fn := fun _ => fun
  | [d1, d2, d3] => { results := [.lit (.bool true)], args := [d1, d2, d3] }
  | _ => none }
def viewInRow : OpenClaim := { program := "ytkihhdoejpjbbaa", sum := "1aa55f7be73de0e647ff15130f49af931483fe671d7d88771971aa98e15ab2be", func := "angelus/angeluslaw40.ViewIn", spec := "viewIn", unfollowed := true, recurses := true, apart := false }
def ViewInSaid : Prop := viewInRow.holds Try.pinned (OpenSpec.ofChange viewInSpec)

/-- ITS FALSE NEIGHBOUR: 'it returns false'. Refute it at one input. -/
def viewInWrong : ChangeSpec := { name := "viewIn", fn := fun _ => fun
  | [d1, d2, d3] => { results := [.lit (.bool false)], args := [d1, d2, d3] }
  | _ => none }
def ViewInWrongFalsely : Prop := viewInRow.holds Try.pinned (OpenSpec.ofChange viewInWrong)

/-- 'angeluslaw36.LogBetween': WHATEVER THE INPUT: true; the input reads as it did. -/
def logBetweenSpec : ChangeSpec := { name := "logBetween", fn := fun _ => fun
  | [d1, d2, d3] => { results := [.lit (.bool true)], args := [d1, d2, d3] }
  | _ => none }
def logBetweenRow : OpenClaim := { program := "ytkihhdoejpjbbaa", sum := "1aa55f7be73de0e647ff15130f49af931483fe671d7d88771971aa98e15ab2be", func := "angelus/angeluslaw36.LogBetween", spec := "logBetween", unfollowed := true, recurses := true, apart := false }
def LogBetweenSaid : Prop := logBetweenRow.holds Try.pinned (OpenSpec.ofChange logBetweenSpec)

/-- ITS FALSE NEIGHBOUR: 'it returns false'. Refute it at one input. -/
def logBetweenWrong : ChangeSpec := { name := "logBetween", fn := fun _ => fun
  | [d1, d2, d3] => { results := [.lit (.bool false)], args := [d1, d2, d3] }
  | _ => none }
def LogBetweenWrongFalsely : Prop := logBetweenRow.holds Try.pinned (OpenSpec.ofChange logBetweenWrong)

/-- 'angeluslaw40.ViewFinds': WHATEVER THE INPUT: true; the input reads as it did. -/
def viewFindsSpec : ChangeSpec := { name := "viewFinds", fn := fun _ => fun
  | [d1, d2, d3] => { results := [.lit (.bool true)], args := [d1, d2, d3] }
  | _ => none }
def viewFindsRow : OpenClaim := { program := "ytkihhdoejpjbbaa", sum := "1aa55f7be73de0e647ff15130f49af931483fe671d7d88771971aa98e15ab2be", func := "angelus/angeluslaw40.ViewFinds", spec := "viewFinds", unfollowed := true, recurses := true, apart := false }
def ViewFindsSaid : Prop := viewFindsRow.holds Try.pinned (OpenSpec.ofChange viewFindsSpec)

/-- ITS FALSE NEIGHBOUR: 'it returns false'. Refute it at one input. -/
def viewFindsWrong : ChangeSpec := { name := "viewFinds", fn := fun _ => fun
  | [d1, d2, d3] => { results := [.lit (.bool false)], args := [d1, d2, d3] }
  | _ => none }
def ViewFindsWrongFalsely : Prop := viewFindsRow.holds Try.pinned (OpenSpec.ofChange viewFindsWrong)

/-- 'angeluslaw36.LogAdds': WHATEVER THE INPUT: true; the input reads as it did. -/
def logAddsSpec : ChangeSpec := { name := "logAdds", fn := fun _ => fun
  | [d1, d2] => { results := [.lit (.bool true)], args := [d1, d2] }
  | _ => none }
def logAddsRow : OpenClaim := { program := "ytkihhdoejpjbbaa", sum := "1aa55f7be73de0e647ff15130f49af931483fe671d7d88771971aa98e15ab2be", func := "angelus/angeluslaw36.LogAdds", spec := "logAdds", unfollowed := true, recurses := true, apart := false }
def LogAddsSaid : Prop := logAddsRow.holds Try.pinned (OpenSpec.ofChange logAddsSpec)

/-- ITS FALSE NEIGHBOUR: 'it returns false'. Refute it at one input. -/
def logAddsWrong : ChangeSpec := { name := "logAdds", fn := fun _ => fun
  | [d1, d2] => { results := [.lit (.bool false)], args := [d1, d2] }
  | _ => none }
def LogAddsWrongFalsely : Prop := logAddsRow.holds Try.pinned (OpenSpec.ofChange logAddsWrong)

/-- 'angeluslaw36.LogOwn': WHATEVER THE INPUT: true; the input reads as it did. -/
def logOwnSpec : ChangeSpec := { name := "logOwn", fn := fun _ => fun
  | [d] => { results := [.lit (.bool true)], args := [d] }
  | _ => none }
def logOwnRow : OpenClaim := { program := "ytkihhdoejpjbbaa", sum := "1aa55f7be73de0e647ff15130f49af931483fe671d7d88771971aa98e15ab2be", func := "angelus/angeluslaw36.LogOwn", spec := "logOwn", unfollowed := true, recurses := true, apart := false }
def LogOwnSaid : Prop := logOwnRow.holds Try.pinned (OpenSpec.ofChange logOwnSpec)

/-- ITS FALSE NEIGHBOUR: 'it returns false'. Refute it at one input. -/
def logOwnWrong : ChangeSpec := { name := "logOwn", fn := fun _ => fun
  | [d] => { results := [.lit (.bool false)], args := [d] }
  | _ => none }
def LogOwnWrongFalsely : Prop := logOwnRow.holds Try.pinned (OpenSpec.ofChange logOwnWrong)

/-- 'angeluslaw36.LogGoes': WHATEVER THE INPUT: true; the input reads as it did. -/
def logGoesSpec : ChangeSpec := { name := "logGoes", fn := fun _ => fun
  | [d1, d2] => { results := [.lit (.bool true)], args := [d1, d2] }
  | _ => none }
def logGoesRow : OpenClaim := { program := "ytkihhdoejpjbbaa", sum := "1aa55f7be73de0e647ff15130f49af931483fe671d7d88771971aa98e15ab2be", func := "angelus/angeluslaw36.LogGoes", spec := "logGoes", unfollowed := true, recurses := true, apart := false }
def LogGoesSaid : Prop := logGoesRow.holds Try.pinned (OpenSpec.ofChange logGoesSpec)

/-- ITS FALSE NEIGHBOUR: 'it returns false'. Refute it at one input. -/
def logGoesWrong : ChangeSpec := { name := "logGoes", fn := fun _ => fun
  | [d1, d2] => { results := [.lit (.bool false)], args := [d1, d2] }
  | _ => none }
def LogGoesWrongFalsely : Prop := logGoesRow.holds Try.pinned (OpenSpec.ofChange logGoesWrong)

/-- 'angeluslaw40.ViewNil': WHATEVER THE INPUT: true; the input reads as it did. -/
def viewNilSpec : ChangeSpec := { name := "viewNil", fn := fun _ => fun
  | [d] => { results := [.lit (.bool true)], args := [d] }
  | _ => none }
def viewNilRow : OpenClaim := { program := "ytkihhdoejpjbbaa", sum := "1aa55f7be73de0e647ff15130f49af931483fe671d7d88771971aa98e15ab2be", func := "angelus/angeluslaw40.ViewNil", spec := "viewNil", unfollowed := true, recurses := true, apart := false }
def ViewNilSaid : Prop := viewNilRow.holds Try.pinned (OpenSpec.ofChange viewNilSpec)

/-- ITS FALSE NEIGHBOUR: 'it returns false'. Refute it at one input. -/
def viewNilWrong : ChangeSpec := { name := "viewNil", fn := fun _ => fun
  | [d] => { results := [.lit (.bool false)], args := [d] }
  | _ => none }
def ViewNilWrongFalsely : Prop := viewNilRow.holds Try.pinned (OpenSpec.ofChange viewNilWrong)

/-- 'angeluslaw36.LogNil': WHATEVER THE INPUT: true; the input reads as it did. -/
def logNilSpec : ChangeSpec := { name := "logNil", fn := fun _ => fun
  | [d1, d2] => { results := [.lit (.bool true)], args := [d1, d2] }
  | _ => none }
def logNilRow : OpenClaim := { program := "ytkihhdoejpjbbaa", sum := "1aa55f7be73de0e647ff15130f49af931483fe671d7d88771971aa98e15ab2be", func := "angelus/angeluslaw36.LogNil", spec := "logNil", unfollowed := true, recurses := true, apart := false }
def LogNilSaid : Prop := logNilRow.holds Try.pinned (OpenSpec.ofChange logNilSpec)

/-- ITS FALSE NEIGHBOUR: 'it returns false'. Refute it at one input. -/
def logNilWrong : ChangeSpec := { name := "logNil", fn := fun _ => fun
  | [d1, d2] => { results := [.lit (.bool false)], args := [d1, d2] }
  | _ => none }
def LogNilWrongFalsely : Prop := logNilRow.holds Try.pinned (OpenSpec.ofChange logNilWrong)

/-- 'angeluslaw36.LogSorted': WHATEVER THE INPUT: true; the input reads as it did. -/
def logSortedSpec : ChangeSpec := { name := "logSorted", fn := fun _ => fun
  | [d] => { results := [.lit (.bool true)], args := [d] }
  | _ => none }
def logSortedRow : OpenClaim := { program := "ytkihhdoejpjbbaa", sum := "1aa55f7be73de0e647ff15130f49af931483fe671d7d88771971aa98e15ab2be", func := "angelus/angeluslaw36.LogSorted", spec := "logSorted", unfollowed := true, recurses := true, apart := false }
def LogSortedSaid : Prop := logSortedRow.holds Try.pinned (OpenSpec.ofChange logSortedSpec)

/-- ITS FALSE NEIGHBOUR: 'it returns false'. Refute it at one input. -/
def logSortedWrong : ChangeSpec := { name := "logSorted", fn := fun _ => fun
  | [d] => { results := [.lit (.bool false)], args := [d] }
  | _ => none }
def LogSortedWrongFalsely : Prop := logSortedRow.holds Try.pinned (OpenSpec.ofChange logSortedWrong)

/- THE SECOND FORM. 'bulk': how many values and letters a reading holds, each counted each time it is reached (what is shared counts as often as it is met; a slice's spare places count too). A statement '..UptoSaid' is the law's where the arguments, and the package variables that the reading takes, are together of bulk at most 1048576: NARROWER than '..Said'. Prove '..Said' where nothing that the law and all that it calls make is longer than what came in: it says more and counts as full. Else prove '..UptoSaid'. A law counts once. -/
mutual
def uptoBulk {H : Type} : DataW H → Nat
  | .lit (.string bytes) => bytes.length + 1
  | .lit _ => 1
  | .nil => 1
  | .ptr d => uptoBulk d + 1
  | .slice elems spare => uptoBulkAll elems + uptoBulkAll spare + 1
  | .agg parts => uptoBulkAll parts + 1
  | .iface _ d => uptoBulk d + 1
  | .map entries => uptoBulkEntries entries + 1
  | .held _ => 1
def uptoBulkAll {H : Type} : List (DataW H) → Nat
  | [] => 0
  | d :: r => uptoBulk d + uptoBulkAll r
def uptoBulkEntries {H : Type} : List (Lit × DataW H) → Nat
  | [] => 0
  | x :: r => uptoBulkEntry x + uptoBulkEntries r
def uptoBulkEntry {H : Type} : Lit × DataW H → Nat
  | (.string bytes, d) => bytes.length + uptoBulk d + 1
  | (_, d) => uptoBulk d + 1
 end
def uptoSmall : (H : Type) → List (DataW H) → Bool := fun _ ds => decide (uptoBulkAll ds ≤ 1048576)
def OpenSpec.upto (s : _root_.Go.ChangeSpec) : _root_.Go.OpenSpec := { _root_.Go.OpenSpec.ofChange s with cond := some uptoSmall }

/-- 'angeluslaw40.ViewInstalls', WHERE WHAT IT READS IS OF BULK AT MOST 1048576: true; the input reads as it did. -/
def viewInstallsUptoRow : OpenClaim := { program := "ytkihhdoejpjbbaa", sum := "1aa55f7be73de0e647ff15130f49af931483fe671d7d88771971aa98e15ab2be", func := "angelus/angeluslaw40.ViewInstalls", spec := "viewInstalls", apart := false, narrowed := true }
def ViewInstallsUptoSaid : Prop := viewInstallsUptoRow.holds Try.pinned (OpenSpec.upto viewInstallsSpec)

/-- 'angeluslaw40.ViewSpans', WHERE WHAT IT READS IS OF BULK AT MOST 1048576: true; the input reads as it did. -/
def viewSpansUptoRow : OpenClaim := { program := "ytkihhdoejpjbbaa", sum := "1aa55f7be73de0e647ff15130f49af931483fe671d7d88771971aa98e15ab2be", func := "angelus/angeluslaw40.ViewSpans", spec := "viewSpans", apart := false, narrowed := true }
def ViewSpansUptoSaid : Prop := viewSpansUptoRow.holds Try.pinned (OpenSpec.upto viewSpansSpec)

/-- 'angeluslaw40.ViewIn', WHERE WHAT IT READS IS OF BULK AT MOST 1048576: true; the input reads as it did. -/
def viewInUptoRow : OpenClaim := { program := "ytkihhdoejpjbbaa", sum := "1aa55f7be73de0e647ff15130f49af931483fe671d7d88771971aa98e15ab2be", func := "angelus/angeluslaw40.ViewIn", spec := "viewIn", unfollowed := true, recurses := true, apart := false, narrowed := true }
def ViewInUptoSaid : Prop := viewInUptoRow.holds Try.pinned (OpenSpec.upto viewInSpec)

/-- 'angeluslaw36.LogBetween', WHERE WHAT IT READS IS OF BULK AT MOST 1048576: true; the input reads as it did. -/
def logBetweenUptoRow : OpenClaim := { program := "ytkihhdoejpjbbaa", sum := "1aa55f7be73de0e647ff15130f49af931483fe671d7d88771971aa98e15ab2be", func := "angelus/angeluslaw36.LogBetween", spec := "logBetween", unfollowed := true, recurses := true, apart := false, narrowed := true }
def LogBetweenUptoSaid : Prop := logBetweenUptoRow.holds Try.pinned (OpenSpec.upto logBetweenSpec)

/-- 'angeluslaw40.ViewFinds', WHERE WHAT IT READS IS OF BULK AT MOST 1048576: true; the input reads as it did. -/
def viewFindsUptoRow : OpenClaim := { program := "ytkihhdoejpjbbaa", sum := "1aa55f7be73de0e647ff15130f49af931483fe671d7d88771971aa98e15ab2be", func := "angelus/angeluslaw40.ViewFinds", spec := "viewFinds", unfollowed := true, recurses := true, apart := false, narrowed := true }
def ViewFindsUptoSaid : Prop := viewFindsUptoRow.holds Try.pinned (OpenSpec.upto viewFindsSpec)

/-- 'angeluslaw36.LogAdds', WHERE WHAT IT READS IS OF BULK AT MOST 1048576: true; the input reads as it did. -/
def logAddsUptoRow : OpenClaim := { program := "ytkihhdoejpjbbaa", sum := "1aa55f7be73de0e647ff15130f49af931483fe671d7d88771971aa98e15ab2be", func := "angelus/angeluslaw36.LogAdds", spec := "logAdds", unfollowed := true, recurses := true, apart := false, narrowed := true }
def LogAddsUptoSaid : Prop := logAddsUptoRow.holds Try.pinned (OpenSpec.upto logAddsSpec)

/-- 'angeluslaw36.LogOwn', WHERE WHAT IT READS IS OF BULK AT MOST 1048576: true; the input reads as it did. -/
def logOwnUptoRow : OpenClaim := { program := "ytkihhdoejpjbbaa", sum := "1aa55f7be73de0e647ff15130f49af931483fe671d7d88771971aa98e15ab2be", func := "angelus/angeluslaw36.LogOwn", spec := "logOwn", unfollowed := true, recurses := true, apart := false, narrowed := true }
def LogOwnUptoSaid : Prop := logOwnUptoRow.holds Try.pinned (OpenSpec.upto logOwnSpec)

/-- 'angeluslaw36.LogGoes', WHERE WHAT IT READS IS OF BULK AT MOST 1048576: true; the input reads as it did. -/
def logGoesUptoRow : OpenClaim := { program := "ytkihhdoejpjbbaa", sum := "1aa55f7be73de0e647ff15130f49af931483fe671d7d88771971aa98e15ab2be", func := "angelus/angeluslaw36.LogGoes", spec := "logGoes", unfollowed := true, recurses := true, apart := false, narrowed := true }
def LogGoesUptoSaid : Prop := logGoesUptoRow.holds Try.pinned (OpenSpec.upto logGoesSpec)

/-- 'angeluslaw40.ViewNil', WHERE WHAT IT READS IS OF BULK AT MOST 1048576: true; the input reads as it did. -/
def viewNilUptoRow : OpenClaim := { program := "ytkihhdoejpjbbaa", sum := "1aa55f7be73de0e647ff15130f49af931483fe671d7d88771971aa98e15ab2be", func := "angelus/angeluslaw40.ViewNil", spec := "viewNil", unfollowed := true, recurses := true, apart := false, narrowed := true }
def ViewNilUptoSaid : Prop := viewNilUptoRow.holds Try.pinned (OpenSpec.upto viewNilSpec)

/-- 'angeluslaw36.LogNil', WHERE WHAT IT READS IS OF BULK AT MOST 1048576: true; the input reads as it did. -/
def logNilUptoRow : OpenClaim := { program := "ytkihhdoejpjbbaa", sum := "1aa55f7be73de0e647ff15130f49af931483fe671d7d88771971aa98e15ab2be", func := "angelus/angeluslaw36.LogNil", spec := "logNil", unfollowed := true, recurses := true, apart := false, narrowed := true }
def LogNilUptoSaid : Prop := logNilUptoRow.holds Try.pinned (OpenSpec.upto logNilSpec)

/-- 'angeluslaw36.LogSorted', WHERE WHAT IT READS IS OF BULK AT MOST 1048576: true; the input reads as it did. -/
def logSortedUptoRow : OpenClaim := { program := "ytkihhdoejpjbbaa", sum := "1aa55f7be73de0e647ff15130f49af931483fe671d7d88771971aa98e15ab2be", func := "angelus/angeluslaw36.LogSorted", spec := "logSorted", unfollowed := true, recurses := true, apart := false, narrowed := true }
def LogSortedUptoSaid : Prop := logSortedUptoRow.holds Try.pinned (OpenSpec.upto logSortedSpec)

end Rows
end Go.Proofs.Ytkihhdoejpjbbaa
