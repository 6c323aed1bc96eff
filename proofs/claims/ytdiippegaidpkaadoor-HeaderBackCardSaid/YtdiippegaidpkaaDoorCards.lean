/-
  DERIVED. GIVEN WITH THE SEED: THE CARDS: each row of YtdiippegaidpkaaDoorRows.lean that lists a variable, with what it lists TIED to the program's text (the seventh form; the later family's looks); each row that meets fmt, with fmt's text TOLD by the authors' own Lean function (tested against real Go, not proved from fmt's source: count such statements apart). THE CARD IS WHAT COUNTS. Prove the row's statement (the work); the ties are given (YtdiippegaidpkaaDoorTie.lean); close each card by the builder's one call (the guide's Derived/Test/ToyasCard.lean, 'card_holds'). Laid BY PROGRAM, IN A SANDBOX (cutbox-door.mjs). By AI agents, Wed Nov 11 2026. No macro, syntax, notation, axiom, sorry.
-/
import Derived.Test.YtdiippegaidpkaaDoorRows
import GoSem.ClaimSeven
namespace Go.Proofs.YtdiippegaidpkaaDoor
namespace Rows

/-- THE TIED CARD OF 'clavigerlaw02.DigitsHex'. -/
def digitsHexCard : Claim7 := { stood := { row := digitsHexRow, standIns := [], harness := (true, "8a56563ab3c77031e147f6dbb62ab9f0171e2fa6e927b95a3beedcd0d0c69103"), looks := true }, kinds := [], alts := [], laidByText := true, laidKinds := [.data, .data, .data, .data, .sentinel, .sentinel, .pinned], laidTests := true, laidLooks := .later }
def DigitsHexCardSaid : Prop := Claim7.holds Tryd.pinned (.plain (OpenSpec.ofChange digitsHexSpec)) digitsHexCard

/-- THE TIED CARD OF 'clavigerlaw02.DigitsDec'. -/
def digitsDecCard : Claim7 := { stood := { row := digitsDecRow, standIns := [], harness := (true, "8a56563ab3c77031e147f6dbb62ab9f0171e2fa6e927b95a3beedcd0d0c69103"), looks := true }, kinds := [], alts := [], laidByText := true, laidKinds := [.data, .data, .data, .data, .sentinel, .sentinel, .pinned], laidTests := true, laidLooks := .later }
def DigitsDecCardSaid : Prop := Claim7.holds Tryd.pinned (.plain (OpenSpec.ofChange digitsDecSpec)) digitsDecCard

/-- THE TIED CARD OF 'clavigerlaw02.DigitsBack'. -/
def digitsBackCard : Claim7 := { stood := { row := digitsBackRow, standIns := [], harness := (true, "8a56563ab3c77031e147f6dbb62ab9f0171e2fa6e927b95a3beedcd0d0c69103"), looks := true }, kinds := [], alts := [], laidByText := true, laidKinds := [.data, .data, .data, .data, .sentinel, .sentinel, .pinned], laidTests := true, laidLooks := .later }
def DigitsBackCardSaid : Prop := Claim7.holds Tryd.pinned (.plain (OpenSpec.ofChange digitsBackSpec)) digitsBackCard

/-- THE TIED CARD OF 'clavigerlaw31.HeaderTells'. -/
def headerTellsCard : Claim7 := { stood := { row := headerTellsRow, standIns := [], harness := (true, "8a56563ab3c77031e147f6dbb62ab9f0171e2fa6e927b95a3beedcd0d0c69103"), looks := true }, kinds := [], alts := [], laidByText := true, laidKinds := [.data, .data, .data, .data, .sentinel, .sentinel, .pinned], laidTests := true, laidLooks := .later }
def HeaderTellsCardSaid : Prop := Claim7.holds Tryd.pinned (.plain (OpenSpec.ofChange headerTellsSpec)) headerTellsCard

/-- THE TIED CARD OF 'clavigerlaw31.HeaderBack'. -/
def headerBackCard : Claim7 := { stood := { row := headerBackRow, standIns := [], harness := (true, "8a56563ab3c77031e147f6dbb62ab9f0171e2fa6e927b95a3beedcd0d0c69103"), looks := true }, kinds := [], alts := [], laidByText := true, laidKinds := [.data, .data, .data, .data, .sentinel, .sentinel, .pinned], laidTests := true, laidLooks := .later }
def HeaderBackCardSaid : Prop := Claim7.holds Tryd.pinned (.plain (OpenSpec.ofChange headerBackSpec)) headerBackCard

/-- THE SECOND FORM's CARD OF 'clavigerlaw02.DigitsHex'. -/
def digitsHexUptoCard : Claim7 := { stood := { row := digitsHexUptoRow, standIns := [], harness := (true, "8a56563ab3c77031e147f6dbb62ab9f0171e2fa6e927b95a3beedcd0d0c69103"), looks := true }, kinds := [], alts := [], laidByText := true, laidKinds := [.data, .data, .data, .data, .sentinel, .sentinel, .pinned], laidTests := true, laidLooks := .later }
def DigitsHexUptoCardSaid : Prop := Claim7.holds Tryd.pinned (.plain (OpenSpec.upto digitsHexSpec)) digitsHexUptoCard

/-- THE SECOND FORM's CARD OF 'clavigerlaw02.DigitsDec'. -/
def digitsDecUptoCard : Claim7 := { stood := { row := digitsDecUptoRow, standIns := [], harness := (true, "8a56563ab3c77031e147f6dbb62ab9f0171e2fa6e927b95a3beedcd0d0c69103"), looks := true }, kinds := [], alts := [], laidByText := true, laidKinds := [.data, .data, .data, .data, .sentinel, .sentinel, .pinned], laidTests := true, laidLooks := .later }
def DigitsDecUptoCardSaid : Prop := Claim7.holds Tryd.pinned (.plain (OpenSpec.upto digitsDecSpec)) digitsDecUptoCard

/-- THE SECOND FORM's CARD OF 'clavigerlaw02.DigitsBack'. -/
def digitsBackUptoCard : Claim7 := { stood := { row := digitsBackUptoRow, standIns := [], harness := (true, "8a56563ab3c77031e147f6dbb62ab9f0171e2fa6e927b95a3beedcd0d0c69103"), looks := true }, kinds := [], alts := [], laidByText := true, laidKinds := [.data, .data, .data, .data, .sentinel, .sentinel, .pinned], laidTests := true, laidLooks := .later }
def DigitsBackUptoCardSaid : Prop := Claim7.holds Tryd.pinned (.plain (OpenSpec.upto digitsBackSpec)) digitsBackUptoCard

/-- THE SECOND FORM's CARD OF 'clavigerlaw31.HeaderTells'. -/
def headerTellsUptoCard : Claim7 := { stood := { row := headerTellsUptoRow, standIns := [], harness := (true, "8a56563ab3c77031e147f6dbb62ab9f0171e2fa6e927b95a3beedcd0d0c69103"), looks := true }, kinds := [], alts := [], laidByText := true, laidKinds := [.data, .data, .data, .data, .sentinel, .sentinel, .pinned], laidTests := true, laidLooks := .later }
def HeaderTellsUptoCardSaid : Prop := Claim7.holds Tryd.pinned (.plain (OpenSpec.upto headerTellsSpec)) headerTellsUptoCard

/-- THE SECOND FORM's CARD OF 'clavigerlaw31.HeaderBack'. -/
def headerBackUptoCard : Claim7 := { stood := { row := headerBackUptoRow, standIns := [], harness := (true, "8a56563ab3c77031e147f6dbb62ab9f0171e2fa6e927b95a3beedcd0d0c69103"), looks := true }, kinds := [], alts := [], laidByText := true, laidKinds := [.data, .data, .data, .data, .sentinel, .sentinel, .pinned], laidTests := true, laidLooks := .later }
def HeaderBackUptoCardSaid : Prop := Claim7.holds Tryd.pinned (.plain (OpenSpec.upto headerBackSpec)) headerBackUptoCard
end Rows
end Go.Proofs.YtdiippegaidpkaaDoor
