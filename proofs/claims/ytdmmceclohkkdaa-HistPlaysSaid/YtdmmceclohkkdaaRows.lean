/-
  No cell of these rows narrows 'for every input' (looked for: loops, veiled, ifaces, maps, wideKeys, modest, calm, conditions, laid).
  DERIVED. THE GIVEN ROWS OF THIS SEAT. 12 by the template 'for every input the law returns true; each argument reads behind the call as it read before'; 0 by the template 'total and deterministic' (their statements: YtdmmceclohkkdaaTotals.lean).
  GIVEN WITH THE SEED: the statements are not yours to turn. If you find one false, say at which input.
  Laid BY PROGRAM, IN A SANDBOX (cutbox-rows.mjs): the forced cells as the released guide's own fill.sh prints them over the translation 21e8b538d802fb21… (all of the seat's roots in one cut). By AI agents, Wed Nov 11 2026. No macro, syntax, notation, axiom, sorry.
-/
import Derived.Test.YtdmmceclohkkdaaChecked
import GoSem.Claim
import GoSem.ClaimJoined
import GoSem.ClaimMapViews
import Derived.JoinedTies
import Derived.KernelRfl
namespace Go.Proofs.Ytdmmceclohkkdaa
/- THE CELL 'sum', in the pinned program and in every row, IS THE sha256 OF THE DUMP (.gsa) THAT YtdmmceclohkkdaaProg.lean LOADS. Nothing in Lean hashes anything: it is a label: what it is worth is what the hold of that sum in a sandbox is worth. -/
noncomputable def Try.pinned : Pinned := { name := "ytdmmceclohkkdaa", sum := "21e8b538d802fb21baa224b461d7a6259b16bbe8e3a333f44edeb00d97458a6a", checked := Try.checked }
namespace Rows
def none {H : Type} : Left H := { results := [], args := [] }

/-- 'angeluslaw07.TablePops': WHATEVER THE INPUT: true; the input reads as it did. -/
def tablePopsSpec : ChangeSpec := { name := "tablePops", fn := fun _ => fun
  | [d] => { results := [.lit (.bool true)], args := [d] }
  | _ => none }
def tablePopsRow : OpenClaim := { program := "ytdmmceclohkkdaa", sum := "21e8b538d802fb21baa224b461d7a6259b16bbe8e3a333f44edeb00d97458a6a", func := "angelus/angeluslaw07.TablePops", spec := "tablePops", inPlace := ["slices.overlaps[angelus/api.Key]"], unfollowed := true, recurses := true, plainKeys := false, apart := false }
def TablePopsSaid : Prop := tablePopsRow.holds Try.pinned (OpenSpec.ofChange tablePopsSpec)

/-- ITS FALSE NEIGHBOUR: 'it returns false'. Refute it at one input. -/
def tablePopsWrong : ChangeSpec := { name := "tablePops", fn := fun _ => fun
  | [d] => { results := [.lit (.bool false)], args := [d] }
  | _ => none }
def TablePopsWrongFalsely : Prop := tablePopsRow.holds Try.pinned (OpenSpec.ofChange tablePopsWrong)

/-- 'angeluslaw07.TableStops': WHATEVER THE INPUT: true; the input reads as it did. -/
def tableStopsSpec : ChangeSpec := { name := "tableStops", fn := fun _ => fun
  | [d1, d2] => { results := [.lit (.bool true)], args := [d1, d2] }
  | _ => none }
def tableStopsRow : OpenClaim := { program := "ytdmmceclohkkdaa", sum := "21e8b538d802fb21baa224b461d7a6259b16bbe8e3a333f44edeb00d97458a6a", func := "angelus/angeluslaw07.TableStops", spec := "tableStops", inPlace := ["slices.overlaps[angelus/api.Key]"], unfollowed := true, recurses := true, plainKeys := false, apart := false }
def TableStopsSaid : Prop := tableStopsRow.holds Try.pinned (OpenSpec.ofChange tableStopsSpec)

/-- ITS FALSE NEIGHBOUR: 'it returns false'. Refute it at one input. -/
def tableStopsWrong : ChangeSpec := { name := "tableStops", fn := fun _ => fun
  | [d1, d2] => { results := [.lit (.bool false)], args := [d1, d2] }
  | _ => none }
def TableStopsWrongFalsely : Prop := tableStopsRow.holds Try.pinned (OpenSpec.ofChange tableStopsWrong)

/-- 'angeluslaw29.SeenMost': WHATEVER THE INPUT: true; the input reads as it did. -/
def seenMostSpec : ChangeSpec := { name := "seenMost", fn := fun _ => fun
  | [d1, d2] => { results := [.lit (.bool true)], args := [d1, d2] }
  | _ => none }
def seenMostRow : OpenClaim := { program := "ytdmmceclohkkdaa", sum := "21e8b538d802fb21baa224b461d7a6259b16bbe8e3a333f44edeb00d97458a6a", func := "angelus/angeluslaw29.SeenMost", spec := "seenMost", inPlace := ["slices.overlaps[angelus/api.Key]"], unfollowed := true, recurses := true, plainKeys := false, apart := false }
def SeenMostSaid : Prop := seenMostRow.holds Try.pinned (OpenSpec.ofChange seenMostSpec)

/-- ITS FALSE NEIGHBOUR: 'it returns false'. Refute it at one input. -/
def seenMostWrong : ChangeSpec := { name := "seenMost", fn := fun _ => fun
  | [d1, d2] => { results := [.lit (.bool false)], args := [d1, d2] }
  | _ => none }
def SeenMostWrongFalsely : Prop := seenMostRow.holds Try.pinned (OpenSpec.ofChange seenMostWrong)

/-- 'angeluslaw29.SeenStays': WHATEVER THE INPUT: true; the input reads as it did. -/
def seenStaysSpec : ChangeSpec := { name := "seenStays", fn := fun _ => fun
  | [d1, d2, d3] => { results := [.lit (.bool true)], args := [d1, d2, d3] }
  | _ => none }
def seenStaysRow : OpenClaim := { program := "ytdmmceclohkkdaa", sum := "21e8b538d802fb21baa224b461d7a6259b16bbe8e3a333f44edeb00d97458a6a", func := "angelus/angeluslaw29.SeenStays", spec := "seenStays", inPlace := ["slices.overlaps[angelus/api.Key]"], unfollowed := true, recurses := true, plainKeys := false, apart := false }
def SeenStaysSaid : Prop := seenStaysRow.holds Try.pinned (OpenSpec.ofChange seenStaysSpec)

/-- ITS FALSE NEIGHBOUR: 'it returns false'. Refute it at one input. -/
def seenStaysWrong : ChangeSpec := { name := "seenStays", fn := fun _ => fun
  | [d1, d2, d3] => { results := [.lit (.bool false)], args := [d1, d2, d3] }
  | _ => none }
def SeenStaysWrongFalsely : Prop := seenStaysRow.holds Try.pinned (OpenSpec.ofChange seenStaysWrong)

/-- 'angeluslaw07.TablePlays': WHATEVER THE INPUT: true; the input reads as it did. -/
def tablePlaysSpec : ChangeSpec := { name := "tablePlays", fn := fun _ => fun
  | [d1, d2] => { results := [.lit (.bool true)], args := [d1, d2] }
  | _ => none }
def tablePlaysRow : OpenClaim := { program := "ytdmmceclohkkdaa", sum := "21e8b538d802fb21baa224b461d7a6259b16bbe8e3a333f44edeb00d97458a6a", func := "angelus/angeluslaw07.TablePlays", spec := "tablePlays", inPlace := ["slices.overlaps[angelus/api.Key]"], unfollowed := true, recurses := true, plainKeys := false, apart := false }
def TablePlaysSaid : Prop := tablePlaysRow.holds Try.pinned (OpenSpec.ofChange tablePlaysSpec)

/-- ITS FALSE NEIGHBOUR: 'it returns false'. Refute it at one input. -/
def tablePlaysWrong : ChangeSpec := { name := "tablePlays", fn := fun _ => fun
  | [d1, d2] => { results := [.lit (.bool false)], args := [d1, d2] }
  | _ => none }
def TablePlaysWrongFalsely : Prop := tablePlaysRow.holds Try.pinned (OpenSpec.ofChange tablePlaysWrong)

/-- 'angeluslaw07.TableNil': WHATEVER THE INPUT: true; the input reads as it did. -/
def tableNilSpec : ChangeSpec := { name := "tableNil", fn := fun _ => fun
  | [d] => { results := [.lit (.bool true)], args := [d] }
  | _ => none }
def tableNilRow : OpenClaim := { program := "ytdmmceclohkkdaa", sum := "21e8b538d802fb21baa224b461d7a6259b16bbe8e3a333f44edeb00d97458a6a", func := "angelus/angeluslaw07.TableNil", spec := "tableNil", inPlace := ["slices.overlaps[angelus/api.Key]"], unfollowed := true, recurses := true, plainKeys := false, apart := false }
def TableNilSaid : Prop := tableNilRow.holds Try.pinned (OpenSpec.ofChange tableNilSpec)

/-- ITS FALSE NEIGHBOUR: 'it returns false'. Refute it at one input. -/
def tableNilWrong : ChangeSpec := { name := "tableNil", fn := fun _ => fun
  | [d] => { results := [.lit (.bool false)], args := [d] }
  | _ => none }
def TableNilWrongFalsely : Prop := tableNilRow.holds Try.pinned (OpenSpec.ofChange tableNilWrong)

/-- 'angeluslaw29.SeenPlays': WHATEVER THE INPUT: true; the input reads as it did. -/
def seenPlaysSpec : ChangeSpec := { name := "seenPlays", fn := fun _ => fun
  | [d1, d2] => { results := [.lit (.bool true)], args := [d1, d2] }
  | _ => none }
def seenPlaysRow : OpenClaim := { program := "ytdmmceclohkkdaa", sum := "21e8b538d802fb21baa224b461d7a6259b16bbe8e3a333f44edeb00d97458a6a", func := "angelus/angeluslaw29.SeenPlays", spec := "seenPlays", inPlace := ["slices.overlaps[angelus/api.Key]"], unfollowed := true, recurses := true, plainKeys := false, apart := false }
def SeenPlaysSaid : Prop := seenPlaysRow.holds Try.pinned (OpenSpec.ofChange seenPlaysSpec)

/-- ITS FALSE NEIGHBOUR: 'it returns false'. Refute it at one input. -/
def seenPlaysWrong : ChangeSpec := { name := "seenPlays", fn := fun _ => fun
  | [d1, d2] => { results := [.lit (.bool false)], args := [d1, d2] }
  | _ => none }
def SeenPlaysWrongFalsely : Prop := seenPlaysRow.holds Try.pinned (OpenSpec.ofChange seenPlaysWrong)

/-- 'angeluslaw29.SeenNil': WHATEVER THE INPUT: true; the input reads as it did. -/
def seenNilSpec : ChangeSpec := { name := "seenNil", fn := fun _ => fun
  | [d1, d2] => { results := [.lit (.bool true)], args := [d1, d2] }
  | _ => none }
def seenNilRow : OpenClaim := { program := "ytdmmceclohkkdaa", sum := "21e8b538d802fb21baa224b461d7a6259b16bbe8e3a333f44edeb00d97458a6a", func := "angelus/angeluslaw29.SeenNil", spec := "seenNil", inPlace := ["slices.overlaps[angelus/api.Key]"], unfollowed := true, recurses := true, plainKeys := false, apart := false }
def SeenNilSaid : Prop := seenNilRow.holds Try.pinned (OpenSpec.ofChange seenNilSpec)

/-- ITS FALSE NEIGHBOUR: 'it returns false'. Refute it at one input. -/
def seenNilWrong : ChangeSpec := { name := "seenNil", fn := fun _ => fun
  | [d1, d2] => { results := [.lit (.bool false)], args := [d1, d2] }
  | _ => none }
def SeenNilWrongFalsely : Prop := seenNilRow.holds Try.pinned (OpenSpec.ofChange seenNilWrong)

/-- 'angeluslaw33.HistRises': WHATEVER THE INPUT: true; the input reads as it did. -/
def histRisesSpec : ChangeSpec := { name := "histRises", fn := fun _ => fun
  | [d1, d2] => { results := [.lit (.bool true)], args := [d1, d2] }
  | _ => none }
def histRisesRow : OpenClaim := { program := "ytdmmceclohkkdaa", sum := "21e8b538d802fb21baa224b461d7a6259b16bbe8e3a333f44edeb00d97458a6a", func := "angelus/angeluslaw33.HistRises", spec := "histRises", inPlace := ["slices.overlaps[angelus/api.Key]"], unfollowed := true, recurses := true, plainKeys := false, apart := false }
def HistRisesSaid : Prop := histRisesRow.holds Try.pinned (OpenSpec.ofChange histRisesSpec)

/-- ITS FALSE NEIGHBOUR: 'it returns false'. Refute it at one input. -/
def histRisesWrong : ChangeSpec := { name := "histRises", fn := fun _ => fun
  | [d1, d2] => { results := [.lit (.bool false)], args := [d1, d2] }
  | _ => none }
def HistRisesWrongFalsely : Prop := histRisesRow.holds Try.pinned (OpenSpec.ofChange histRisesWrong)

/-- 'angeluslaw33.HistOwn': WHATEVER THE INPUT: true; the input reads as it did. -/
def histOwnSpec : ChangeSpec := { name := "histOwn", fn := fun _ => fun
  | [d1, d2] => { results := [.lit (.bool true)], args := [d1, d2] }
  | _ => none }
def histOwnRow : OpenClaim := { program := "ytdmmceclohkkdaa", sum := "21e8b538d802fb21baa224b461d7a6259b16bbe8e3a333f44edeb00d97458a6a", func := "angelus/angeluslaw33.HistOwn", spec := "histOwn", inPlace := ["slices.overlaps[angelus/api.Key]"], unfollowed := true, recurses := true, plainKeys := false, apart := false }
def HistOwnSaid : Prop := histOwnRow.holds Try.pinned (OpenSpec.ofChange histOwnSpec)

/-- ITS FALSE NEIGHBOUR: 'it returns false'. Refute it at one input. -/
def histOwnWrong : ChangeSpec := { name := "histOwn", fn := fun _ => fun
  | [d1, d2] => { results := [.lit (.bool false)], args := [d1, d2] }
  | _ => none }
def HistOwnWrongFalsely : Prop := histOwnRow.holds Try.pinned (OpenSpec.ofChange histOwnWrong)

/-- 'angeluslaw33.HistPlays': WHATEVER THE INPUT: true; the input reads as it did. -/
def histPlaysSpec : ChangeSpec := { name := "histPlays", fn := fun _ => fun
  | [d1, d2, d3] => { results := [.lit (.bool true)], args := [d1, d2, d3] }
  | _ => none }
def histPlaysRow : OpenClaim := { program := "ytdmmceclohkkdaa", sum := "21e8b538d802fb21baa224b461d7a6259b16bbe8e3a333f44edeb00d97458a6a", func := "angelus/angeluslaw33.HistPlays", spec := "histPlays", inPlace := ["slices.overlaps[angelus/api.Key]"], unfollowed := true, recurses := true, plainKeys := false, apart := false }
def HistPlaysSaid : Prop := histPlaysRow.holds Try.pinned (OpenSpec.ofChange histPlaysSpec)

/-- ITS FALSE NEIGHBOUR: 'it returns false'. Refute it at one input. -/
def histPlaysWrong : ChangeSpec := { name := "histPlays", fn := fun _ => fun
  | [d1, d2, d3] => { results := [.lit (.bool false)], args := [d1, d2, d3] }
  | _ => none }
def HistPlaysWrongFalsely : Prop := histPlaysRow.holds Try.pinned (OpenSpec.ofChange histPlaysWrong)

/-- 'angeluslaw33.HistNil': WHATEVER THE INPUT: true; the input reads as it did. -/
def histNilSpec : ChangeSpec := { name := "histNil", fn := fun _ => fun
  | [d] => { results := [.lit (.bool true)], args := [d] }
  | _ => none }
def histNilRow : OpenClaim := { program := "ytdmmceclohkkdaa", sum := "21e8b538d802fb21baa224b461d7a6259b16bbe8e3a333f44edeb00d97458a6a", func := "angelus/angeluslaw33.HistNil", spec := "histNil", inPlace := ["slices.overlaps[angelus/api.Key]"], unfollowed := true, recurses := true, plainKeys := false, apart := false }
def HistNilSaid : Prop := histNilRow.holds Try.pinned (OpenSpec.ofChange histNilSpec)

/-- ITS FALSE NEIGHBOUR: 'it returns false'. Refute it at one input. -/
def histNilWrong : ChangeSpec := { name := "histNil", fn := fun _ => fun
  | [d] => { results := [.lit (.bool false)], args := [d] }
  | _ => none }
def HistNilWrongFalsely : Prop := histNilRow.holds Try.pinned (OpenSpec.ofChange histNilWrong)

/- THE SECOND FORM. 'bulk': how many values and letters a reading holds, each counted each time it is reached (what is shared counts as often as it is met; a slice's spare places count too). A statement '..UptoSaid' is the law's where the arguments, and the package variables that the reading takes, are together of bulk at most 1048576: NARROWER than '..Said'. Prove '..Said' where nothing that the law and all that it calls make is longer than what came in: it says more and counts as full. Else prove '..UptoSaid'. A law counts once. -/
mutual
def uptoBulk {H : Type} : DataW H → Nat
  | .lit (.string bytes) => bytes.length + 1
  | .lit _ => 1
  | .nil => 1
  | .ptr d => uptoBulk d + 1
  | .slice elems spare => uptoBulkAll elems + uptoBulkAll spare + 1
  | .agg parts => uptoBulkAll parts + 1
  | .iface _ d => uptoBulk d + 1
  | .map entries => uptoBulkEntries entries + 1
  | .held _ => 1
def uptoBulkAll {H : Type} : List (DataW H) → Nat
  | [] => 0
  | d :: r => uptoBulk d + uptoBulkAll r
def uptoBulkEntries {H : Type} : List (Lit × DataW H) → Nat
  | [] => 0
  | x :: r => uptoBulkEntry x + uptoBulkEntries r
def uptoBulkEntry {H : Type} : Lit × DataW H → Nat
  | (.string bytes, d) => bytes.length + uptoBulk d + 1
  | (_, d) => uptoBulk d + 1
 end
def uptoSmall : (H : Type) → List (DataW H) → Bool := fun _ ds => decide (uptoBulkAll ds ≤ 1048576)
def OpenSpec.upto (s : _root_.Go.ChangeSpec) : _root_.Go.OpenSpec := { _root_.Go.OpenSpec.ofChange s with cond := some uptoSmall }

/-- 'angeluslaw07.TablePops', WHERE WHAT IT READS IS OF BULK AT MOST 1048576: true; the input reads as it did. -/
def tablePopsUptoRow : OpenClaim := { program := "ytdmmceclohkkdaa", sum := "21e8b538d802fb21baa224b461d7a6259b16bbe8e3a333f44edeb00d97458a6a", func := "angelus/angeluslaw07.TablePops", spec := "tablePops", inPlace := ["slices.overlaps[angelus/api.Key]"], unfollowed := true, recurses := true, plainKeys := false, apart := false, narrowed := true }
def TablePopsUptoSaid : Prop := tablePopsUptoRow.holds Try.pinned (OpenSpec.upto tablePopsSpec)

/-- 'angeluslaw07.TableStops', WHERE WHAT IT READS IS OF BULK AT MOST 1048576: true; the input reads as it did. -/
def tableStopsUptoRow : OpenClaim := { program := "ytdmmceclohkkdaa", sum := "21e8b538d802fb21baa224b461d7a6259b16bbe8e3a333f44edeb00d97458a6a", func := "angelus/angeluslaw07.TableStops", spec := "tableStops", inPlace := ["slices.overlaps[angelus/api.Key]"], unfollowed := true, recurses := true, plainKeys := false, apart := false, narrowed := true }
def TableStopsUptoSaid : Prop := tableStopsUptoRow.holds Try.pinned (OpenSpec.upto tableStopsSpec)

/-- 'angeluslaw29.SeenMost', WHERE WHAT IT READS IS OF BULK AT MOST 1048576: true; the input reads as it did. -/
def seenMostUptoRow : OpenClaim := { program := "ytdmmceclohkkdaa", sum := "21e8b538d802fb21baa224b461d7a6259b16bbe8e3a333f44edeb00d97458a6a", func := "angelus/angeluslaw29.SeenMost", spec := "seenMost", inPlace := ["slices.overlaps[angelus/api.Key]"], unfollowed := true, recurses := true, plainKeys := false, apart := false, narrowed := true }
def SeenMostUptoSaid : Prop := seenMostUptoRow.holds Try.pinned (OpenSpec.upto seenMostSpec)

/-- 'angeluslaw29.SeenStays', WHERE WHAT IT READS IS OF BULK AT MOST 1048576: true; the input reads as it did. -/
def seenStaysUptoRow : OpenClaim := { program := "ytdmmceclohkkdaa", sum := "21e8b538d802fb21baa224b461d7a6259b16bbe8e3a333f44edeb00d97458a6a", func := "angelus/angeluslaw29.SeenStays", spec := "seenStays", inPlace := ["slices.overlaps[angelus/api.Key]"], unfollowed := true, recurses := true, plainKeys := false, apart := false, narrowed := true }
def SeenStaysUptoSaid : Prop := seenStaysUptoRow.holds Try.pinned (OpenSpec.upto seenStaysSpec)

/-- 'angeluslaw07.TablePlays', WHERE WHAT IT READS IS OF BULK AT MOST 1048576: true; the input reads as it did. -/
def tablePlaysUptoRow : OpenClaim := { program := "ytdmmceclohkkdaa", sum := "21e8b538d802fb21baa224b461d7a6259b16bbe8e3a333f44edeb00d97458a6a", func := "angelus/angeluslaw07.TablePlays", spec := "tablePlays", inPlace := ["slices.overlaps[angelus/api.Key]"], unfollowed := true, recurses := true, plainKeys := false, apart := false, narrowed := true }
def TablePlaysUptoSaid : Prop := tablePlaysUptoRow.holds Try.pinned (OpenSpec.upto tablePlaysSpec)

/-- 'angeluslaw07.TableNil', WHERE WHAT IT READS IS OF BULK AT MOST 1048576: true; the input reads as it did. -/
def tableNilUptoRow : OpenClaim := { program := "ytdmmceclohkkdaa", sum := "21e8b538d802fb21baa224b461d7a6259b16bbe8e3a333f44edeb00d97458a6a", func := "angelus/angeluslaw07.TableNil", spec := "tableNil", inPlace := ["slices.overlaps[angelus/api.Key]"], unfollowed := true, recurses := true, plainKeys := false, apart := false, narrowed := true }
def TableNilUptoSaid : Prop := tableNilUptoRow.holds Try.pinned (OpenSpec.upto tableNilSpec)

/-- 'angeluslaw29.SeenPlays', WHERE WHAT IT READS IS OF BULK AT MOST 1048576: true; the input reads as it did. -/
def seenPlaysUptoRow : OpenClaim := { program := "ytdmmceclohkkdaa", sum := "21e8b538d802fb21baa224b461d7a6259b16bbe8e3a333f44edeb00d97458a6a", func := "angelus/angeluslaw29.SeenPlays", spec := "seenPlays", inPlace := ["slices.overlaps[angelus/api.Key]"], unfollowed := true, recurses := true, plainKeys := false, apart := false, narrowed := true }
def SeenPlaysUptoSaid : Prop := seenPlaysUptoRow.holds Try.pinned (OpenSpec.upto seenPlaysSpec)

/-- 'angeluslaw29.SeenNil', WHERE WHAT IT READS IS OF BULK AT MOST 1048576: true; the input reads as it did. -/
def seenNilUptoRow : OpenClaim := { program := "ytdmmceclohkkdaa", sum := "21e8b538d802fb21baa224b461d7a6259b16bbe8e3a333f44edeb00d97458a6a", func := "angelus/angeluslaw29.SeenNil", spec := "seenNil", inPlace := ["slices.overlaps[angelus/api.Key]"], unfollowed := true, recurses := true, plainKeys := false, apart := false, narrowed := true }
def SeenNilUptoSaid : Prop := seenNilUptoRow.holds Try.pinned (OpenSpec.upto seenNilSpec)

/-- 'angeluslaw33.HistRises', WHERE WHAT IT READS IS OF BULK AT MOST 1048576: true; the input reads as it did. -/
def histRisesUptoRow : OpenClaim := { program := "ytdmmceclohkkdaa", sum := "21e8b538d802fb21baa224b461d7a6259b16bbe8e3a333f44edeb00d97458a6a", func := "angelus/angeluslaw33.HistRises", spec := "histRises", inPlace := ["slices.overlaps[angelus/api.Key]"], unfollowed := true, recurses := true, plainKeys := false, apart := false, narrowed := true }
def HistRisesUptoSaid : Prop := histRisesUptoRow.holds Try.pinned (OpenSpec.upto histRisesSpec)

/-- 'angeluslaw33.HistOwn', WHERE WHAT IT READS IS OF BULK AT MOST 1048576: true; the input reads as it did. -/
def histOwnUptoRow : OpenClaim := { program := "ytdmmceclohkkdaa", sum := "21e8b538d802fb21baa224b461d7a6259b16bbe8e3a333f44edeb00d97458a6a", func := "angelus/angeluslaw33.HistOwn", spec := "histOwn", inPlace := ["slices.overlaps[angelus/api.Key]"], unfollowed := true, recurses := true, plainKeys := false, apart := false, narrowed := true }
def HistOwnUptoSaid : Prop := histOwnUptoRow.holds Try.pinned (OpenSpec.upto histOwnSpec)

/-- 'angeluslaw33.HistPlays', WHERE WHAT IT READS IS OF BULK AT MOST 1048576: true; the input reads as it did. -/
def histPlaysUptoRow : OpenClaim := { program := "ytdmmceclohkkdaa", sum := "21e8b538d802fb21baa224b461d7a6259b16bbe8e3a333f44edeb00d97458a6a", func := "angelus/angeluslaw33.HistPlays", spec := "histPlays", inPlace := ["slices.overlaps[angelus/api.Key]"], unfollowed := true, recurses := true, plainKeys := false, apart := false, narrowed := true }
def HistPlaysUptoSaid : Prop := histPlaysUptoRow.holds Try.pinned (OpenSpec.upto histPlaysSpec)

/-- 'angeluslaw33.HistNil', WHERE WHAT IT READS IS OF BULK AT MOST 1048576: true; the input reads as it did. -/
def histNilUptoRow : OpenClaim := { program := "ytdmmceclohkkdaa", sum := "21e8b538d802fb21baa224b461d7a6259b16bbe8e3a333f44edeb00d97458a6a", func := "angelus/angeluslaw33.HistNil", spec := "histNil", inPlace := ["slices.overlaps[angelus/api.Key]"], unfollowed := true, recurses := true, plainKeys := false, apart := false, narrowed := true }
def HistNilUptoSaid : Prop := histNilUptoRow.holds Try.pinned (OpenSpec.upto histNilSpec)

end Rows
end Go.Proofs.Ytdmmceclohkkdaa
