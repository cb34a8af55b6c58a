/-
  DERIVED. GIVEN WITH THE SEED: THE CARDS: each row of YthdcmchjlpkkaaaDoorRows.lean that lists a variable, with what it lists TIED to the program's text (the seventh form; the later family's looks); each row that meets fmt, with fmt's text TOLD by the authors' own Lean function (tested against real Go, not proved from fmt's source: count such statements apart). THE CARD IS WHAT COUNTS. Prove the row's statement (the work); the ties are given (YthdcmchjlpkkaaaDoorTie.lean); close each card by the builder's one call (the guide's Derived/Test/ToyasCard.lean, 'card_holds'). Laid BY PROGRAM, IN A SANDBOX (cutbox-door.mjs). By AI agents, Wed Nov 11 2026. No macro, syntax, notation, axiom, sorry.
-/
import Derived.Test.YthdcmchjlpkkaaaDoorRows
import GoSem.ClaimSeven
namespace Go.Proofs.YthdcmchjlpkkaaaDoor
namespace Rows

/-- THE TIED CARD OF 'angeluslaw27.MendNear'. -/
def mendNearCard : Claim7 := { stood := { row := mendNearRow, standIns := [], harness := (true, "30892587b8c7d36ceb23202bb0e9536766bfeb6d66486452009a081db2808c5d"), looks := false }, kinds := [], alts := [], laidByText := true, laidKinds := [.data], laidTests := true, laidLooks := .later }
def MendNearCardSaid : Prop := Claim7.holds Tryd.pinned (.plain (OpenSpec.ofChange mendNearSpec)) mendNearCard

/-- THE TIED CARD OF 'angeluslaw27.MendWithin'. -/
def mendWithinCard : Claim7 := { stood := { row := mendWithinRow, standIns := [], harness := (true, "30892587b8c7d36ceb23202bb0e9536766bfeb6d66486452009a081db2808c5d"), looks := false }, kinds := [], alts := [], laidByText := true, laidKinds := [.data], laidTests := true, laidLooks := .later }
def MendWithinCardSaid : Prop := Claim7.holds Tryd.pinned (.plain (OpenSpec.ofChange mendWithinSpec)) mendWithinCard

/-- THE TIED CARD OF 'angeluslaw27.MendKeeps'. -/
def mendKeepsCard : Claim7 := { stood := { row := mendKeepsRow, standIns := [], harness := (true, "30892587b8c7d36ceb23202bb0e9536766bfeb6d66486452009a081db2808c5d"), looks := false }, kinds := [], alts := [], laidByText := true, laidKinds := [.data], laidTests := true, laidLooks := .later }
def MendKeepsCardSaid : Prop := Claim7.holds Tryd.pinned (.plain (OpenSpec.ofChange mendKeepsSpec)) mendKeepsCard

/-- THE SECOND FORM's CARD OF 'angeluslaw27.MendNear'. -/
def mendNearUptoCard : Claim7 := { stood := { row := mendNearUptoRow, standIns := [], harness := (true, "30892587b8c7d36ceb23202bb0e9536766bfeb6d66486452009a081db2808c5d"), looks := false }, kinds := [], alts := [], laidByText := true, laidKinds := [.data], laidTests := true, laidLooks := .later }
def MendNearUptoCardSaid : Prop := Claim7.holds Tryd.pinned (.plain (OpenSpec.upto mendNearSpec)) mendNearUptoCard

/-- THE SECOND FORM's CARD OF 'angeluslaw27.MendWithin'. -/
def mendWithinUptoCard : Claim7 := { stood := { row := mendWithinUptoRow, standIns := [], harness := (true, "30892587b8c7d36ceb23202bb0e9536766bfeb6d66486452009a081db2808c5d"), looks := false }, kinds := [], alts := [], laidByText := true, laidKinds := [.data], laidTests := true, laidLooks := .later }
def MendWithinUptoCardSaid : Prop := Claim7.holds Tryd.pinned (.plain (OpenSpec.upto mendWithinSpec)) mendWithinUptoCard

/-- THE SECOND FORM's CARD OF 'angeluslaw27.MendKeeps'. -/
def mendKeepsUptoCard : Claim7 := { stood := { row := mendKeepsUptoRow, standIns := [], harness := (true, "30892587b8c7d36ceb23202bb0e9536766bfeb6d66486452009a081db2808c5d"), looks := false }, kinds := [], alts := [], laidByText := true, laidKinds := [.data], laidTests := true, laidLooks := .later }
def MendKeepsUptoCardSaid : Prop := Claim7.holds Tryd.pinned (.plain (OpenSpec.upto mendKeepsSpec)) mendKeepsUptoCard
end Rows
end Go.Proofs.YthdcmchjlpkkaaaDoor
