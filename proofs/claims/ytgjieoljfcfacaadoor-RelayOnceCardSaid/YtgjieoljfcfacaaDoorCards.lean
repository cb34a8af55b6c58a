/-
  DERIVED. GIVEN WITH THE SEED: THE CARDS: each row of YtgjieoljfcfacaaDoorRows.lean that lists a variable, with what it lists TIED to the program's text (the seventh form; the later family's looks); each row that meets fmt, with fmt's text TOLD by the authors' own Lean function (tested against real Go, not proved from fmt's source: count such statements apart). THE CARD IS WHAT COUNTS. Prove the row's statement (the work); the ties are given (YtgjieoljfcfacaaDoorTie.lean); close each card by the builder's one call (the guide's Derived/Test/ToyasCard.lean, 'card_holds'). Laid BY PROGRAM, IN A SANDBOX (cutbox-door.mjs). By AI agents, Wed Nov 11 2026. No macro, syntax, notation, axiom, sorry.
-/
import Derived.Test.YtgjieoljfcfacaaDoorRows
import GoSem.ClaimSeven
namespace Go.Proofs.YtgjieoljfcfacaaDoor
namespace Rows

/-- THE TIED CARD OF 'angeluslaw31.RelayOnce'. -/
def relayOnceCard : Claim7 := { stood := { row := relayOnceRow, standIns := [], harness := (true, "7b9af0b3fbbdca9b144405b36e5c4dd0aaa0104dfe25ef6673ed6b364ff4bcb6"), looks := false }, kinds := [], alts := [], laidByText := true, laidKinds := [.data], laidTests := true, laidLooks := .later }
def RelayOnceCardSaid : Prop := Claim7.holds Tryd.pinned (.plain (OpenSpec.ofChange relayOnceSpec)) relayOnceCard

/-- THE TIED CARD OF 'angeluslaw31.RelayRefuses'. -/
def relayRefusesCard : Claim7 := { stood := { row := relayRefusesRow, standIns := [], harness := (true, "7b9af0b3fbbdca9b144405b36e5c4dd0aaa0104dfe25ef6673ed6b364ff4bcb6"), looks := false }, kinds := [], alts := [], laidByText := true, laidKinds := [.data], laidTests := true, laidLooks := .later }
def RelayRefusesCardSaid : Prop := Claim7.holds Tryd.pinned (.plain (OpenSpec.ofChange relayRefusesSpec)) relayRefusesCard

/-- THE TIED CARD OF 'angeluslaw31.RelayPlays'. -/
def relayPlaysCard : Claim7 := { stood := { row := relayPlaysRow, standIns := [], harness := (true, "7b9af0b3fbbdca9b144405b36e5c4dd0aaa0104dfe25ef6673ed6b364ff4bcb6"), looks := false }, kinds := [], alts := [], laidByText := true, laidKinds := [.data], laidTests := true, laidLooks := .later }
def RelayPlaysCardSaid : Prop := Claim7.holds Tryd.pinned (.plain (OpenSpec.ofChange relayPlaysSpec)) relayPlaysCard

/-- THE TIED CARD OF 'angeluslaw31.RelayNil'. -/
def relayNilCard : Claim7 := { stood := { row := relayNilRow, standIns := [], harness := (true, "7b9af0b3fbbdca9b144405b36e5c4dd0aaa0104dfe25ef6673ed6b364ff4bcb6"), looks := false }, kinds := [], alts := [], laidByText := true, laidKinds := [.data], laidTests := true, laidLooks := .later }
def RelayNilCardSaid : Prop := Claim7.holds Tryd.pinned (.plain (OpenSpec.ofChange relayNilSpec)) relayNilCard

/-- THE SECOND FORM's CARD OF 'angeluslaw31.RelayOnce'. -/
def relayOnceUptoCard : Claim7 := { stood := { row := relayOnceUptoRow, standIns := [], harness := (true, "7b9af0b3fbbdca9b144405b36e5c4dd0aaa0104dfe25ef6673ed6b364ff4bcb6"), looks := false }, kinds := [], alts := [], laidByText := true, laidKinds := [.data], laidTests := true, laidLooks := .later }
def RelayOnceUptoCardSaid : Prop := Claim7.holds Tryd.pinned (.plain (OpenSpec.upto relayOnceSpec)) relayOnceUptoCard

/-- THE SECOND FORM's CARD OF 'angeluslaw31.RelayRefuses'. -/
def relayRefusesUptoCard : Claim7 := { stood := { row := relayRefusesUptoRow, standIns := [], harness := (true, "7b9af0b3fbbdca9b144405b36e5c4dd0aaa0104dfe25ef6673ed6b364ff4bcb6"), looks := false }, kinds := [], alts := [], laidByText := true, laidKinds := [.data], laidTests := true, laidLooks := .later }
def RelayRefusesUptoCardSaid : Prop := Claim7.holds Tryd.pinned (.plain (OpenSpec.upto relayRefusesSpec)) relayRefusesUptoCard

/-- THE SECOND FORM's CARD OF 'angeluslaw31.RelayPlays'. -/
def relayPlaysUptoCard : Claim7 := { stood := { row := relayPlaysUptoRow, standIns := [], harness := (true, "7b9af0b3fbbdca9b144405b36e5c4dd0aaa0104dfe25ef6673ed6b364ff4bcb6"), looks := false }, kinds := [], alts := [], laidByText := true, laidKinds := [.data], laidTests := true, laidLooks := .later }
def RelayPlaysUptoCardSaid : Prop := Claim7.holds Tryd.pinned (.plain (OpenSpec.upto relayPlaysSpec)) relayPlaysUptoCard

/-- THE SECOND FORM's CARD OF 'angeluslaw31.RelayNil'. -/
def relayNilUptoCard : Claim7 := { stood := { row := relayNilUptoRow, standIns := [], harness := (true, "7b9af0b3fbbdca9b144405b36e5c4dd0aaa0104dfe25ef6673ed6b364ff4bcb6"), looks := false }, kinds := [], alts := [], laidByText := true, laidKinds := [.data], laidTests := true, laidLooks := .later }
def RelayNilUptoCardSaid : Prop := Claim7.holds Tryd.pinned (.plain (OpenSpec.upto relayNilSpec)) relayNilUptoCard
end Rows
end Go.Proofs.YtgjieoljfcfacaaDoor
