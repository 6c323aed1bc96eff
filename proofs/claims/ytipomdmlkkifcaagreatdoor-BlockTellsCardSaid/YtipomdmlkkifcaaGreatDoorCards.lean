/-
  DERIVED. GIVEN WITH THE SEED: THE CARDS: each row of YtipomdmlkkifcaaGreatDoorRows.lean that lists a variable, with what it lists TIED to the program's text (the seventh form; the later family's looks); each row that meets fmt, with fmt's text TOLD by the authors' own Lean function (tested against real Go, not proved from fmt's source: count such statements apart). THE CARD IS WHAT COUNTS. Prove the row's statement (the work); the ties are given (YtipomdmlkkifcaaGreatDoorTie.lean); close each card by the builder's one call (the guide's Derived/Test/ToyasCard.lean, 'card_holds'). Laid BY PROGRAM, IN A SANDBOX (cutbox-door.mjs). By AI agents, Wed Nov 11 2026. No macro, syntax, notation, axiom, sorry.
-/
import Derived.Test.YtipomdmlkkifcaaGreatDoorRows
import GoSem.ClaimSeven
namespace Go.Proofs.YtipomdmlkkifcaaGreatDoor
namespace Rows

/-- THE TIED CARD OF 'clavigerlaw47.DumpBlock'. -/
def dumpBlockCard : Claim7 := { stood := { row := dumpBlockRow, standIns := [], harness := (true, "18406105b11ea69bc28bda5a343805cdf59e5533b8e342c33163eb13ffb9a0ee"), looks := true }, kinds := [], alts := [], laidByText := true, laidKinds := [.data, .data, .data, .data, .sentinel, .sentinel, .pinned], laidTests := true, laidLooks := .later }
def DumpBlockCardSaid : Prop := Claim7.holds Tryz.pinned (.plain (OpenSpec.ofChange dumpBlockSpec)) dumpBlockCard

/-- THE TIED CARD OF 'clavigerlaw39.BlockTells'. -/
def blockTellsCard : Claim7 := { stood := { row := blockTellsRow, standIns := [], harness := (true, "18406105b11ea69bc28bda5a343805cdf59e5533b8e342c33163eb13ffb9a0ee"), looks := true }, kinds := [], alts := [], laidByText := true, laidKinds := [.data, .data, .data, .data, .sentinel, .sentinel, .pinned], laidTests := true, laidLooks := .later }
def BlockTellsCardSaid : Prop := Claim7.holds Tryz.pinned (.plain (OpenSpec.ofChange blockTellsSpec)) blockTellsCard

/-- THE TIED CARD OF 'clavigerlaw39.BlockBack'. -/
def blockBackCard : Claim7 := { stood := { row := blockBackRow, standIns := [], harness := (true, "18406105b11ea69bc28bda5a343805cdf59e5533b8e342c33163eb13ffb9a0ee"), looks := true }, kinds := [], alts := [], laidByText := true, laidKinds := [.data, .data, .data, .data, .sentinel, .sentinel, .pinned], laidTests := true, laidLooks := .later }
def BlockBackCardSaid : Prop := Claim7.holds Tryz.pinned (.plain (OpenSpec.ofChange blockBackSpec)) blockBackCard

/-- THE TIED CARD OF 'clavigerlaw39.BlockOne'. -/
def blockOneCard : Claim7 := { stood := { row := blockOneRow, standIns := [], harness := (true, "18406105b11ea69bc28bda5a343805cdf59e5533b8e342c33163eb13ffb9a0ee"), looks := true }, kinds := [], alts := [], laidByText := true, laidKinds := [.data, .data, .data, .data, .sentinel, .sentinel, .pinned], laidTests := true, laidLooks := .later }
def BlockOneCardSaid : Prop := Claim7.holds Tryz.pinned (.plain (OpenSpec.ofChange blockOneSpec)) blockOneCard

/-- THE SECOND FORM's CARD OF 'clavigerlaw47.DumpBlock'. -/
def dumpBlockUptoCard : Claim7 := { stood := { row := dumpBlockUptoRow, standIns := [], harness := (true, "18406105b11ea69bc28bda5a343805cdf59e5533b8e342c33163eb13ffb9a0ee"), looks := true }, kinds := [], alts := [], laidByText := true, laidKinds := [.data, .data, .data, .data, .sentinel, .sentinel, .pinned], laidTests := true, laidLooks := .later }
def DumpBlockUptoCardSaid : Prop := Claim7.holds Tryz.pinned (.plain (OpenSpec.upto dumpBlockSpec)) dumpBlockUptoCard

/-- THE SECOND FORM's CARD OF 'clavigerlaw39.BlockTells'. -/
def blockTellsUptoCard : Claim7 := { stood := { row := blockTellsUptoRow, standIns := [], harness := (true, "18406105b11ea69bc28bda5a343805cdf59e5533b8e342c33163eb13ffb9a0ee"), looks := true }, kinds := [], alts := [], laidByText := true, laidKinds := [.data, .data, .data, .data, .sentinel, .sentinel, .pinned], laidTests := true, laidLooks := .later }
def BlockTellsUptoCardSaid : Prop := Claim7.holds Tryz.pinned (.plain (OpenSpec.upto blockTellsSpec)) blockTellsUptoCard

/-- THE SECOND FORM's CARD OF 'clavigerlaw39.BlockBack'. -/
def blockBackUptoCard : Claim7 := { stood := { row := blockBackUptoRow, standIns := [], harness := (true, "18406105b11ea69bc28bda5a343805cdf59e5533b8e342c33163eb13ffb9a0ee"), looks := true }, kinds := [], alts := [], laidByText := true, laidKinds := [.data, .data, .data, .data, .sentinel, .sentinel, .pinned], laidTests := true, laidLooks := .later }
def BlockBackUptoCardSaid : Prop := Claim7.holds Tryz.pinned (.plain (OpenSpec.upto blockBackSpec)) blockBackUptoCard

/-- THE SECOND FORM's CARD OF 'clavigerlaw39.BlockOne'. -/
def blockOneUptoCard : Claim7 := { stood := { row := blockOneUptoRow, standIns := [], harness := (true, "18406105b11ea69bc28bda5a343805cdf59e5533b8e342c33163eb13ffb9a0ee"), looks := true }, kinds := [], alts := [], laidByText := true, laidKinds := [.data, .data, .data, .data, .sentinel, .sentinel, .pinned], laidTests := true, laidLooks := .later }
def BlockOneUptoCardSaid : Prop := Claim7.holds Tryz.pinned (.plain (OpenSpec.upto blockOneSpec)) blockOneUptoCard
end Rows
end Go.Proofs.YtipomdmlkkifcaaGreatDoor
