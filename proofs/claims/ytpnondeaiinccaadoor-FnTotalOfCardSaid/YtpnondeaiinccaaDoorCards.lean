/-
  DERIVED. GIVEN WITH THE SEED: THE CARDS: each row of YtpnondeaiinccaaDoorRows.lean that lists a variable, with what it lists TIED to the program's text (the seventh form; the later family's looks); each row that meets fmt, with fmt's text TOLD by the authors' own Lean function (tested against real Go, not proved from fmt's source: count such statements apart). THE CARD IS WHAT COUNTS. Prove the row's statement (the work); the ties are given (YtpnondeaiinccaaDoorTie.lean); close each card by the builder's one call (the guide's Derived/Test/ToyasCard.lean, 'card_holds'). Laid BY PROGRAM, IN A SANDBOX (cutbox-door.mjs). By AI agents, Wed Nov 11 2026. No macro, syntax, notation, axiom, sorry.
-/
import Derived.Test.YtpnondeaiinccaaDoorRows
import GoSem.ClaimSeven
namespace Go.Proofs.YtpnondeaiinccaaDoor
namespace Rows

/-- THE TIED CARD OF 'laws.FnTotalOf'. -/
def fnTotalOfCard : Claim7 := { stood := { row := fnTotalOfRow, standIns := [], harness := (true, "fe46f37e53b402753b09a6c8ab81f0fa9aba442a7c3402c9c8943f771ba4b90c"), looks := true }, kinds := [], alts := [], laidByText := true, laidKinds := [.data, .data, .data, .data, .sentinel, .sentinel, .pinned], laidTests := true, laidLooks := .later }
def FnTotalOfCardSaid : Prop := Claim7.holds Tryd.pinned (.plain (OpenSpec.ofChange fnTotalOfSpec)) fnTotalOfCard

/-- THE TIED CARD OF 'laws.FnSumOf'. -/
def fnSumOfCard : Claim7 := { stood := { row := fnSumOfRow, standIns := [], harness := (true, "fe46f37e53b402753b09a6c8ab81f0fa9aba442a7c3402c9c8943f771ba4b90c"), looks := true }, kinds := [], alts := [], laidByText := true, laidKinds := [.data, .data, .data, .data, .sentinel, .sentinel, .pinned], laidTests := true, laidLooks := .later }
def FnSumOfCardSaid : Prop := Claim7.holds Tryd.pinned (.plain (OpenSpec.ofChange fnSumOfSpec)) fnSumOfCard

/-- THE TIED CARD OF 'laws.FnLeftOf'. -/
def fnLeftOfCard : Claim7 := { stood := { row := fnLeftOfRow, standIns := [], harness := (true, "fe46f37e53b402753b09a6c8ab81f0fa9aba442a7c3402c9c8943f771ba4b90c"), looks := true }, kinds := [], alts := [], laidByText := true, laidKinds := [.data, .data, .data, .data, .sentinel, .sentinel, .pinned], laidTests := true, laidLooks := .later }
def FnLeftOfCardSaid : Prop := Claim7.holds Tryd.pinned (.plain (OpenSpec.ofChange fnLeftOfSpec)) fnLeftOfCard

/-- THE TIED CARD OF 'laws.FnOnTranscript'. -/
def fnOnTranscriptCard : Claim7 := { stood := { row := fnOnTranscriptRow, standIns := [], harness := (true, "fe46f37e53b402753b09a6c8ab81f0fa9aba442a7c3402c9c8943f771ba4b90c"), looks := true }, kinds := [], alts := [], laidByText := true, laidKinds := [.data, .data, .data, .data, .pinned], laidTests := true, laidLooks := .later }
def FnOnTranscriptCardSaid : Prop := Claim7.holds Tryd.pinned (.plain (OpenSpec.ofChange fnOnTranscriptSpec)) fnOnTranscriptCard

/-- THE TIED CARD OF 'laws.FnAddedOf'. -/
def fnAddedOfCard : Claim7 := { stood := { row := fnAddedOfRow, standIns := [], harness := (true, "fe46f37e53b402753b09a6c8ab81f0fa9aba442a7c3402c9c8943f771ba4b90c"), looks := true }, kinds := [], alts := [], laidByText := true, laidKinds := [.data, .data, .data, .data, .pinned], laidTests := true, laidLooks := .later }
def FnAddedOfCardSaid : Prop := Claim7.holds Tryd.pinned (.plain (OpenSpec.ofChange fnAddedOfSpec)) fnAddedOfCard

/-- THE TIED CARD OF 'laws.FnTakenOf'. -/
def fnTakenOfCard : Claim7 := { stood := { row := fnTakenOfRow, standIns := [], harness := (true, "fe46f37e53b402753b09a6c8ab81f0fa9aba442a7c3402c9c8943f771ba4b90c"), looks := true }, kinds := [], alts := [], laidByText := true, laidKinds := [.data, .data, .data, .data, .pinned], laidTests := true, laidLooks := .later }
def FnTakenOfCardSaid : Prop := Claim7.holds Tryd.pinned (.plain (OpenSpec.ofChange fnTakenOfSpec)) fnTakenOfCard

/-- THE TIED CARD OF 'laws.FnWrongTaken'. -/
def fnWrongTakenCard : Claim7 := { stood := { row := fnWrongTakenRow, standIns := [], harness := (true, "fe46f37e53b402753b09a6c8ab81f0fa9aba442a7c3402c9c8943f771ba4b90c"), looks := true }, kinds := [], alts := [], laidByText := true, laidKinds := [.data, .data, .data, .data, .pinned], laidTests := true, laidLooks := .later }
def FnWrongTakenCardSaid : Prop := Claim7.holds Tryd.pinned (.plain (OpenSpec.ofChange fnWrongTakenSpec)) fnWrongTakenCard

/-- THE TIED CARD OF 'laws.FnDifferenceOf'. -/
def fnDifferenceOfCard : Claim7 := { stood := { row := fnDifferenceOfRow, standIns := [], harness := (true, "fe46f37e53b402753b09a6c8ab81f0fa9aba442a7c3402c9c8943f771ba4b90c"), looks := true }, kinds := [], alts := [], laidByText := true, laidKinds := [.data, .data, .data, .data, .pinned], laidTests := true, laidLooks := .later }
def FnDifferenceOfCardSaid : Prop := Claim7.holds Tryd.pinned (.plain (OpenSpec.ofChange fnDifferenceOfSpec)) fnDifferenceOfCard

/-- THE TIED CARD OF 'laws.FnAddedBack'. -/
def fnAddedBackCard : Claim7 := { stood := { row := fnAddedBackRow, standIns := [], harness := (true, "fe46f37e53b402753b09a6c8ab81f0fa9aba442a7c3402c9c8943f771ba4b90c"), looks := true }, kinds := [], alts := [], laidByText := true, laidKinds := [.data, .data, .data, .data, .pinned], laidTests := true, laidLooks := .later }
def FnAddedBackCardSaid : Prop := Claim7.holds Tryd.pinned (.plain (OpenSpec.ofChange fnAddedBackSpec)) fnAddedBackCard

/-- THE TIED CARD OF 'laws.FnWrittenOf'. -/
def fnWrittenOfCard : Claim7 := { stood := { row := fnWrittenOfRow, standIns := [], harness := (true, "fe46f37e53b402753b09a6c8ab81f0fa9aba442a7c3402c9c8943f771ba4b90c"), looks := true }, kinds := [], alts := [], laidByText := true, laidKinds := [.data, .data, .data, .data, .sentinel, .sentinel, .pinned], laidTests := true, laidLooks := .later }
def FnWrittenOfCardSaid : Prop := Claim7.holds Tryd.pinned (.plain (OpenSpec.ofChange fnWrittenOfSpec)) fnWrittenOfCard

/-- THE SECOND FORM's CARD OF 'laws.FnTotalOf'. -/
def fnTotalOfUptoCard : Claim7 := { stood := { row := fnTotalOfUptoRow, standIns := [], harness := (true, "fe46f37e53b402753b09a6c8ab81f0fa9aba442a7c3402c9c8943f771ba4b90c"), looks := true }, kinds := [], alts := [], laidByText := true, laidKinds := [.data, .data, .data, .data, .sentinel, .sentinel, .pinned], laidTests := true, laidLooks := .later }
def FnTotalOfUptoCardSaid : Prop := Claim7.holds Tryd.pinned (.plain (OpenSpec.upto fnTotalOfSpec)) fnTotalOfUptoCard

/-- THE SECOND FORM's CARD OF 'laws.FnSumOf'. -/
def fnSumOfUptoCard : Claim7 := { stood := { row := fnSumOfUptoRow, standIns := [], harness := (true, "fe46f37e53b402753b09a6c8ab81f0fa9aba442a7c3402c9c8943f771ba4b90c"), looks := true }, kinds := [], alts := [], laidByText := true, laidKinds := [.data, .data, .data, .data, .sentinel, .sentinel, .pinned], laidTests := true, laidLooks := .later }
def FnSumOfUptoCardSaid : Prop := Claim7.holds Tryd.pinned (.plain (OpenSpec.upto fnSumOfSpec)) fnSumOfUptoCard

/-- THE SECOND FORM's CARD OF 'laws.FnLeftOf'. -/
def fnLeftOfUptoCard : Claim7 := { stood := { row := fnLeftOfUptoRow, standIns := [], harness := (true, "fe46f37e53b402753b09a6c8ab81f0fa9aba442a7c3402c9c8943f771ba4b90c"), looks := true }, kinds := [], alts := [], laidByText := true, laidKinds := [.data, .data, .data, .data, .sentinel, .sentinel, .pinned], laidTests := true, laidLooks := .later }
def FnLeftOfUptoCardSaid : Prop := Claim7.holds Tryd.pinned (.plain (OpenSpec.upto fnLeftOfSpec)) fnLeftOfUptoCard

/-- THE SECOND FORM's CARD OF 'laws.FnOnTranscript'. -/
def fnOnTranscriptUptoCard : Claim7 := { stood := { row := fnOnTranscriptUptoRow, standIns := [], harness := (true, "fe46f37e53b402753b09a6c8ab81f0fa9aba442a7c3402c9c8943f771ba4b90c"), looks := true }, kinds := [], alts := [], laidByText := true, laidKinds := [.data, .data, .data, .data, .pinned], laidTests := true, laidLooks := .later }
def FnOnTranscriptUptoCardSaid : Prop := Claim7.holds Tryd.pinned (.plain (OpenSpec.upto fnOnTranscriptSpec)) fnOnTranscriptUptoCard

/-- THE SECOND FORM's CARD OF 'laws.FnAddedOf'. -/
def fnAddedOfUptoCard : Claim7 := { stood := { row := fnAddedOfUptoRow, standIns := [], harness := (true, "fe46f37e53b402753b09a6c8ab81f0fa9aba442a7c3402c9c8943f771ba4b90c"), looks := true }, kinds := [], alts := [], laidByText := true, laidKinds := [.data, .data, .data, .data, .pinned], laidTests := true, laidLooks := .later }
def FnAddedOfUptoCardSaid : Prop := Claim7.holds Tryd.pinned (.plain (OpenSpec.upto fnAddedOfSpec)) fnAddedOfUptoCard

/-- THE SECOND FORM's CARD OF 'laws.FnTakenOf'. -/
def fnTakenOfUptoCard : Claim7 := { stood := { row := fnTakenOfUptoRow, standIns := [], harness := (true, "fe46f37e53b402753b09a6c8ab81f0fa9aba442a7c3402c9c8943f771ba4b90c"), looks := true }, kinds := [], alts := [], laidByText := true, laidKinds := [.data, .data, .data, .data, .pinned], laidTests := true, laidLooks := .later }
def FnTakenOfUptoCardSaid : Prop := Claim7.holds Tryd.pinned (.plain (OpenSpec.upto fnTakenOfSpec)) fnTakenOfUptoCard

/-- THE SECOND FORM's CARD OF 'laws.FnWrongTaken'. -/
def fnWrongTakenUptoCard : Claim7 := { stood := { row := fnWrongTakenUptoRow, standIns := [], harness := (true, "fe46f37e53b402753b09a6c8ab81f0fa9aba442a7c3402c9c8943f771ba4b90c"), looks := true }, kinds := [], alts := [], laidByText := true, laidKinds := [.data, .data, .data, .data, .pinned], laidTests := true, laidLooks := .later }
def FnWrongTakenUptoCardSaid : Prop := Claim7.holds Tryd.pinned (.plain (OpenSpec.upto fnWrongTakenSpec)) fnWrongTakenUptoCard

/-- THE SECOND FORM's CARD OF 'laws.FnDifferenceOf'. -/
def fnDifferenceOfUptoCard : Claim7 := { stood := { row := fnDifferenceOfUptoRow, standIns := [], harness := (true, "fe46f37e53b402753b09a6c8ab81f0fa9aba442a7c3402c9c8943f771ba4b90c"), looks := true }, kinds := [], alts := [], laidByText := true, laidKinds := [.data, .data, .data, .data, .pinned], laidTests := true, laidLooks := .later }
def FnDifferenceOfUptoCardSaid : Prop := Claim7.holds Tryd.pinned (.plain (OpenSpec.upto fnDifferenceOfSpec)) fnDifferenceOfUptoCard

/-- THE SECOND FORM's CARD OF 'laws.FnAddedBack'. -/
def fnAddedBackUptoCard : Claim7 := { stood := { row := fnAddedBackUptoRow, standIns := [], harness := (true, "fe46f37e53b402753b09a6c8ab81f0fa9aba442a7c3402c9c8943f771ba4b90c"), looks := true }, kinds := [], alts := [], laidByText := true, laidKinds := [.data, .data, .data, .data, .pinned], laidTests := true, laidLooks := .later }
def FnAddedBackUptoCardSaid : Prop := Claim7.holds Tryd.pinned (.plain (OpenSpec.upto fnAddedBackSpec)) fnAddedBackUptoCard

/-- THE SECOND FORM's CARD OF 'laws.FnWrittenOf'. -/
def fnWrittenOfUptoCard : Claim7 := { stood := { row := fnWrittenOfUptoRow, standIns := [], harness := (true, "fe46f37e53b402753b09a6c8ab81f0fa9aba442a7c3402c9c8943f771ba4b90c"), looks := true }, kinds := [], alts := [], laidByText := true, laidKinds := [.data, .data, .data, .data, .sentinel, .sentinel, .pinned], laidTests := true, laidLooks := .later }
def FnWrittenOfUptoCardSaid : Prop := Claim7.holds Tryd.pinned (.plain (OpenSpec.upto fnWrittenOfSpec)) fnWrittenOfUptoCard
end Rows
end Go.Proofs.YtpnondeaiinccaaDoor
