/-
  DERIVED. GIVEN WITH THE SEED: THE CARDS: each row of YtfmpppdcbeadnaaDoorRows.lean that lists a variable, with what it lists TIED to the program's text (the seventh form; the later family's looks); each row that meets fmt, with fmt's text TOLD by the authors' own Lean function (tested against real Go, not proved from fmt's source: count such statements apart). THE CARD IS WHAT COUNTS. Prove the row's statement (the work); the ties are given (YtfmpppdcbeadnaaDoorTie.lean); close each card by the builder's one call (the guide's Derived/Test/ToyasCard.lean, 'card_holds'). Laid BY PROGRAM, IN A SANDBOX (cutbox-door.mjs). By AI agents, Wed Nov 11 2026. No macro, syntax, notation, axiom, sorry.
-/
import Derived.Test.YtfmpppdcbeadnaaDoorRows
import GoSem.ClaimSeven
namespace Go.Proofs.YtfmpppdcbeadnaaDoor
namespace Rows

/-- THE TIED CARD OF 'angeluslaw15.BurstTurns'. -/
def burstTurnsCard : Claim7 := { stood := { row := burstTurnsRow, standIns := [], harness := (true, "a4690a40bdb0a1c186a41ba815c997c19884e053060add5721597e65519549d2"), looks := false }, kinds := [], alts := [], laidByText := true, laidKinds := [.data], laidTests := true, laidLooks := .later }
def BurstTurnsCardSaid : Prop := Claim7.holds Tryd.pinned (.plain (OpenSpec.ofChange burstTurnsSpec)) burstTurnsCard

/-- THE TIED CARD OF 'angeluslaw15.BurstWidth'. -/
def burstWidthCard : Claim7 := { stood := { row := burstWidthRow, standIns := [], harness := (true, "a4690a40bdb0a1c186a41ba815c997c19884e053060add5721597e65519549d2"), looks := false }, kinds := [], alts := [], laidByText := true, laidKinds := [.data], laidTests := true, laidLooks := .later }
def BurstWidthCardSaid : Prop := Claim7.holds Tryd.pinned (.plain (OpenSpec.ofChange burstWidthSpec)) burstWidthCard

/-- THE TIED CARD OF 'angeluslaw15.BurstDiffers'. -/
def burstDiffersCard : Claim7 := { stood := { row := burstDiffersRow, standIns := [], harness := (true, "a4690a40bdb0a1c186a41ba815c997c19884e053060add5721597e65519549d2"), looks := false }, kinds := [], alts := [], laidByText := true, laidKinds := [.data], laidTests := true, laidLooks := .later }
def BurstDiffersCardSaid : Prop := Claim7.holds Tryd.pinned (.plain (OpenSpec.ofChange burstDiffersSpec)) burstDiffersCard

/-- THE TIED CARD OF 'angeluslaw15.BurstBack'. -/
def burstBackCard : Claim7 := { stood := { row := burstBackRow, standIns := [], harness := (true, "a4690a40bdb0a1c186a41ba815c997c19884e053060add5721597e65519549d2"), looks := false }, kinds := [], alts := [], laidByText := true, laidKinds := [.data], laidTests := true, laidLooks := .later }
def BurstBackCardSaid : Prop := Claim7.holds Tryd.pinned (.plain (OpenSpec.ofChange burstBackSpec)) burstBackCard

/-- THE SECOND FORM's CARD OF 'angeluslaw15.BurstTurns'. -/
def burstTurnsUptoCard : Claim7 := { stood := { row := burstTurnsUptoRow, standIns := [], harness := (true, "a4690a40bdb0a1c186a41ba815c997c19884e053060add5721597e65519549d2"), looks := false }, kinds := [], alts := [], laidByText := true, laidKinds := [.data], laidTests := true, laidLooks := .later }
def BurstTurnsUptoCardSaid : Prop := Claim7.holds Tryd.pinned (.plain (OpenSpec.upto burstTurnsSpec)) burstTurnsUptoCard

/-- THE SECOND FORM's CARD OF 'angeluslaw15.BurstWidth'. -/
def burstWidthUptoCard : Claim7 := { stood := { row := burstWidthUptoRow, standIns := [], harness := (true, "a4690a40bdb0a1c186a41ba815c997c19884e053060add5721597e65519549d2"), looks := false }, kinds := [], alts := [], laidByText := true, laidKinds := [.data], laidTests := true, laidLooks := .later }
def BurstWidthUptoCardSaid : Prop := Claim7.holds Tryd.pinned (.plain (OpenSpec.upto burstWidthSpec)) burstWidthUptoCard

/-- THE SECOND FORM's CARD OF 'angeluslaw15.BurstDiffers'. -/
def burstDiffersUptoCard : Claim7 := { stood := { row := burstDiffersUptoRow, standIns := [], harness := (true, "a4690a40bdb0a1c186a41ba815c997c19884e053060add5721597e65519549d2"), looks := false }, kinds := [], alts := [], laidByText := true, laidKinds := [.data], laidTests := true, laidLooks := .later }
def BurstDiffersUptoCardSaid : Prop := Claim7.holds Tryd.pinned (.plain (OpenSpec.upto burstDiffersSpec)) burstDiffersUptoCard

/-- THE SECOND FORM's CARD OF 'angeluslaw15.BurstBack'. -/
def burstBackUptoCard : Claim7 := { stood := { row := burstBackUptoRow, standIns := [], harness := (true, "a4690a40bdb0a1c186a41ba815c997c19884e053060add5721597e65519549d2"), looks := false }, kinds := [], alts := [], laidByText := true, laidKinds := [.data], laidTests := true, laidLooks := .later }
def BurstBackUptoCardSaid : Prop := Claim7.holds Tryd.pinned (.plain (OpenSpec.upto burstBackSpec)) burstBackUptoCard
end Rows
end Go.Proofs.YtfmpppdcbeadnaaDoor
