/-
  DERIVED. GIVEN WITH THE SEED: THE CARDS: each row of YtgoocfelgkagnaaGreatDoorRows.lean that lists a variable, with what it lists TIED to the program's text (the seventh form; the later family's looks); each row that meets fmt, with fmt's text TOLD by the authors' own Lean function (tested against real Go, not proved from fmt's source: count such statements apart). THE CARD IS WHAT COUNTS. Prove the row's statement (the work); the ties are given (YtgoocfelgkagnaaGreatDoorTie.lean); close each card by the builder's one call (the guide's Derived/Test/ToyasCard.lean, 'card_holds'). Laid BY PROGRAM, IN A SANDBOX (cutbox-door.mjs). By AI agents, Wed Nov 11 2026. No macro, syntax, notation, axiom, sorry.
-/
import Derived.Test.YtgoocfelgkagnaaGreatDoorRows
import GoSem.ClaimSeven
namespace Go.Proofs.YtgoocfelgkagnaaGreatDoor
namespace Rows

/-- THE TIED CARD OF 'clavigerlaw42.LimitTells'. -/
def limitTellsCard : Claim7 := { stood := { row := limitTellsRow, standIns := [], harness := (true, "433ee83f3793766ffff750ef89c5945ebfc287ebd3839d4b3d0f4e582e55da9a"), looks := true }, kinds := [], alts := [], laidByText := true, laidKinds := [.data, .data, .data, .data, .sentinel, .sentinel, .pinned], laidTests := true, laidLooks := .later }
def LimitTellsCardSaid : Prop := Claim7.holds Tryz.pinned (.plain (OpenSpec.ofChange limitTellsSpec)) limitTellsCard

/-- THE TIED CARD OF 'clavigerlaw42.LimitHolds'. -/
def limitHoldsCard : Claim7 := { stood := { row := limitHoldsRow, standIns := [], harness := (true, "433ee83f3793766ffff750ef89c5945ebfc287ebd3839d4b3d0f4e582e55da9a"), looks := true }, kinds := [], alts := [], laidByText := true, laidKinds := [.data, .data, .data, .data, .sentinel, .sentinel, .pinned], laidTests := true, laidLooks := .later }
def LimitHoldsCardSaid : Prop := Claim7.holds Tryz.pinned (.plain (OpenSpec.ofChange limitHoldsSpec)) limitHoldsCard

/-- THE TIED CARD OF 'clavigerlaw34.FrameTells'. -/
def frameTellsCard : Claim7 := { stood := { row := frameTellsRow, standIns := [], harness := (true, "433ee83f3793766ffff750ef89c5945ebfc287ebd3839d4b3d0f4e582e55da9a"), looks := true }, kinds := [], alts := [], laidByText := true, laidKinds := [.data, .data, .data, .data, .sentinel, .sentinel, .pinned], laidTests := true, laidLooks := .later }
def FrameTellsCardSaid : Prop := Claim7.holds Tryz.pinned (.plain (OpenSpec.ofChange frameTellsSpec)) frameTellsCard

/-- THE TIED CARD OF 'clavigerlaw34.FrameBack'. -/
def frameBackCard : Claim7 := { stood := { row := frameBackRow, standIns := [], harness := (true, "433ee83f3793766ffff750ef89c5945ebfc287ebd3839d4b3d0f4e582e55da9a"), looks := true }, kinds := [], alts := [], laidByText := true, laidKinds := [.data, .data, .data, .data, .sentinel, .sentinel, .pinned], laidTests := true, laidLooks := .later }
def FrameBackCardSaid : Prop := Claim7.holds Tryz.pinned (.plain (OpenSpec.ofChange frameBackSpec)) frameBackCard

/-- THE TIED CARD OF 'clavigerlaw34.FrameParts'. -/
def framePartsCard : Claim7 := { stood := { row := framePartsRow, standIns := [], harness := (true, "433ee83f3793766ffff750ef89c5945ebfc287ebd3839d4b3d0f4e582e55da9a"), looks := true }, kinds := [], alts := [], laidByText := true, laidKinds := [.data, .data, .data, .data, .sentinel, .sentinel, .pinned], laidTests := true, laidLooks := .later }
def FramePartsCardSaid : Prop := Claim7.holds Tryz.pinned (.plain (OpenSpec.ofChange framePartsSpec)) framePartsCard

/-- THE SECOND FORM's CARD OF 'clavigerlaw42.LimitTells'. -/
def limitTellsUptoCard : Claim7 := { stood := { row := limitTellsUptoRow, standIns := [], harness := (true, "433ee83f3793766ffff750ef89c5945ebfc287ebd3839d4b3d0f4e582e55da9a"), looks := true }, kinds := [], alts := [], laidByText := true, laidKinds := [.data, .data, .data, .data, .sentinel, .sentinel, .pinned], laidTests := true, laidLooks := .later }
def LimitTellsUptoCardSaid : Prop := Claim7.holds Tryz.pinned (.plain (OpenSpec.upto limitTellsSpec)) limitTellsUptoCard

/-- THE SECOND FORM's CARD OF 'clavigerlaw42.LimitHolds'. -/
def limitHoldsUptoCard : Claim7 := { stood := { row := limitHoldsUptoRow, standIns := [], harness := (true, "433ee83f3793766ffff750ef89c5945ebfc287ebd3839d4b3d0f4e582e55da9a"), looks := true }, kinds := [], alts := [], laidByText := true, laidKinds := [.data, .data, .data, .data, .sentinel, .sentinel, .pinned], laidTests := true, laidLooks := .later }
def LimitHoldsUptoCardSaid : Prop := Claim7.holds Tryz.pinned (.plain (OpenSpec.upto limitHoldsSpec)) limitHoldsUptoCard

/-- THE SECOND FORM's CARD OF 'clavigerlaw34.FrameTells'. -/
def frameTellsUptoCard : Claim7 := { stood := { row := frameTellsUptoRow, standIns := [], harness := (true, "433ee83f3793766ffff750ef89c5945ebfc287ebd3839d4b3d0f4e582e55da9a"), looks := true }, kinds := [], alts := [], laidByText := true, laidKinds := [.data, .data, .data, .data, .sentinel, .sentinel, .pinned], laidTests := true, laidLooks := .later }
def FrameTellsUptoCardSaid : Prop := Claim7.holds Tryz.pinned (.plain (OpenSpec.upto frameTellsSpec)) frameTellsUptoCard

/-- THE SECOND FORM's CARD OF 'clavigerlaw34.FrameBack'. -/
def frameBackUptoCard : Claim7 := { stood := { row := frameBackUptoRow, standIns := [], harness := (true, "433ee83f3793766ffff750ef89c5945ebfc287ebd3839d4b3d0f4e582e55da9a"), looks := true }, kinds := [], alts := [], laidByText := true, laidKinds := [.data, .data, .data, .data, .sentinel, .sentinel, .pinned], laidTests := true, laidLooks := .later }
def FrameBackUptoCardSaid : Prop := Claim7.holds Tryz.pinned (.plain (OpenSpec.upto frameBackSpec)) frameBackUptoCard

/-- THE SECOND FORM's CARD OF 'clavigerlaw34.FrameParts'. -/
def framePartsUptoCard : Claim7 := { stood := { row := framePartsUptoRow, standIns := [], harness := (true, "433ee83f3793766ffff750ef89c5945ebfc287ebd3839d4b3d0f4e582e55da9a"), looks := true }, kinds := [], alts := [], laidByText := true, laidKinds := [.data, .data, .data, .data, .sentinel, .sentinel, .pinned], laidTests := true, laidLooks := .later }
def FramePartsUptoCardSaid : Prop := Claim7.holds Tryz.pinned (.plain (OpenSpec.upto framePartsSpec)) framePartsUptoCard
end Rows
end Go.Proofs.YtgoocfelgkagnaaGreatDoor
