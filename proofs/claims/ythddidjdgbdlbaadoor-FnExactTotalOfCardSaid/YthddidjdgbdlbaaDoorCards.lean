/-
  DERIVED. GIVEN WITH THE SEED: THE CARDS: each row of YthddidjdgbdlbaaDoorRows.lean that lists a variable, with what it lists TIED to the program's text (the seventh form; the later family's looks); each row that meets fmt, with fmt's text TOLD by the authors' own Lean function (tested against real Go, not proved from fmt's source: count such statements apart). THE CARD IS WHAT COUNTS. Prove the row's statement (the work); the ties are given (YthddidjdgbdlbaaDoorTie.lean); close each card by the builder's one call (the guide's Derived/Test/ToyasCard.lean, 'card_holds'). Laid BY PROGRAM, IN A SANDBOX (cutbox-door.mjs). By AI agents, Wed Nov 11 2026. No macro, syntax, notation, axiom, sorry.
-/
import Derived.Test.YthddidjdgbdlbaaDoorRows
import GoSem.ClaimSeven
namespace Go.Proofs.YthddidjdgbdlbaaDoor
namespace Rows

/-- THE TIED CARD OF 'laws.FnValueOf'. -/
def fnValueOfCard : Claim7 := { stood := { row := fnValueOfRow, standIns := [], harness := (true, "9c9b2197cedf3f20ed81c0592202b9472a525e92c0199048fab2a3233d35b8e6"), looks := true }, kinds := [], alts := [], laidByText := true, laidKinds := [.data, .data, .data, .sentinel, .sentinel], laidTests := true, laidLooks := .later }
def FnValueOfCardSaid : Prop := Claim7.holds Tryd.pinned (.plain (OpenSpec.ofChange fnValueOfSpec)) fnValueOfCard

/-- THE TIED CARD OF 'laws.FnDigitAt'. -/
def fnDigitAtCard : Claim7 := { stood := { row := fnDigitAtRow, standIns := [], harness := (true, "9c9b2197cedf3f20ed81c0592202b9472a525e92c0199048fab2a3233d35b8e6"), looks := true }, kinds := [], alts := [], laidByText := true, laidKinds := [.data, .data, .data, .sentinel, .sentinel], laidTests := true, laidLooks := .later }
def FnDigitAtCardSaid : Prop := Claim7.holds Tryd.pinned (.plain (OpenSpec.ofChange fnDigitAtSpec)) fnDigitAtCard

/-- THE TIED CARD OF 'laws.FnNumeralOf'. -/
def fnNumeralOfCard : Claim7 := { stood := { row := fnNumeralOfRow, standIns := [], harness := (true, "9c9b2197cedf3f20ed81c0592202b9472a525e92c0199048fab2a3233d35b8e6"), looks := true }, kinds := [], alts := [], laidByText := true, laidKinds := [.data, .data, .data, .sentinel, .sentinel], laidTests := true, laidLooks := .later }
def FnNumeralOfCardSaid : Prop := Claim7.holds Tryd.pinned (.plain (OpenSpec.ofChange fnNumeralOfSpec)) fnNumeralOfCard

/-- THE TIED CARD OF 'laws.FnDigitSum'. -/
def fnDigitSumCard : Claim7 := { stood := { row := fnDigitSumRow, standIns := [], harness := (true, "9c9b2197cedf3f20ed81c0592202b9472a525e92c0199048fab2a3233d35b8e6"), looks := true }, kinds := [], alts := [], laidByText := true, laidKinds := [.data, .data, .data, .sentinel, .sentinel], laidTests := true, laidLooks := .later }
def FnDigitSumCardSaid : Prop := Claim7.holds Tryd.pinned (.plain (OpenSpec.ofChange fnDigitSumSpec)) fnDigitSumCard

/-- THE TIED CARD OF 'laws.FnNineOf'. -/
def fnNineOfCard : Claim7 := { stood := { row := fnNineOfRow, standIns := [], harness := (true, "9c9b2197cedf3f20ed81c0592202b9472a525e92c0199048fab2a3233d35b8e6"), looks := true }, kinds := [], alts := [], laidByText := true, laidKinds := [.data, .data, .data, .sentinel, .sentinel], laidTests := true, laidLooks := .later }
def FnNineOfCardSaid : Prop := Claim7.holds Tryd.pinned (.plain (OpenSpec.ofChange fnNineOfSpec)) fnNineOfCard

/-- THE TIED CARD OF 'laws.FnOrderOf'. -/
def fnOrderOfCard : Claim7 := { stood := { row := fnOrderOfRow, standIns := [], harness := (true, "9c9b2197cedf3f20ed81c0592202b9472a525e92c0199048fab2a3233d35b8e6"), looks := true }, kinds := [], alts := [], laidByText := true, laidKinds := [.data, .data, .data, .sentinel, .sentinel], laidTests := true, laidLooks := .later }
def FnOrderOfCardSaid : Prop := Claim7.holds Tryd.pinned (.plain (OpenSpec.ofChange fnOrderOfSpec)) fnOrderOfCard

/-- THE TIED CARD OF 'laws.FnElevenOf'. -/
def fnElevenOfCard : Claim7 := { stood := { row := fnElevenOfRow, standIns := [], harness := (true, "9c9b2197cedf3f20ed81c0592202b9472a525e92c0199048fab2a3233d35b8e6"), looks := true }, kinds := [], alts := [], laidByText := true, laidKinds := [.data, .data, .data, .sentinel, .sentinel], laidTests := true, laidLooks := .later }
def FnElevenOfCardSaid : Prop := Claim7.holds Tryd.pinned (.plain (OpenSpec.ofChange fnElevenOfSpec)) fnElevenOfCard

/-- THE TIED CARD OF 'laws.FnExactWrittenOf'. -/
def fnExactWrittenOfCard : Claim7 := { stood := { row := fnExactWrittenOfRow, standIns := [], harness := (true, "9c9b2197cedf3f20ed81c0592202b9472a525e92c0199048fab2a3233d35b8e6"), looks := true }, kinds := [], alts := [], laidByText := true, laidKinds := [.data, .data, .data, .data, .pinned], laidTests := true, laidLooks := .later }
def FnExactWrittenOfCardSaid : Prop := Claim7.holds Tryd.pinned (.plain (OpenSpec.ofChange fnExactWrittenOfSpec)) fnExactWrittenOfCard

/-- THE TIED CARD OF 'laws.FnExactSumOf'. -/
def fnExactSumOfCard : Claim7 := { stood := { row := fnExactSumOfRow, standIns := [], harness := (true, "9c9b2197cedf3f20ed81c0592202b9472a525e92c0199048fab2a3233d35b8e6"), looks := true }, kinds := [], alts := [], laidByText := true, laidKinds := [.data, .data, .data, .data, .pinned], laidTests := true, laidLooks := .later }
def FnExactSumOfCardSaid : Prop := Claim7.holds Tryd.pinned (.plain (OpenSpec.ofChange fnExactSumOfSpec)) fnExactSumOfCard

/-- THE TIED CARD OF 'laws.FnExactDifferenceOf'. -/
def fnExactDifferenceOfCard : Claim7 := { stood := { row := fnExactDifferenceOfRow, standIns := [], harness := (true, "9c9b2197cedf3f20ed81c0592202b9472a525e92c0199048fab2a3233d35b8e6"), looks := true }, kinds := [], alts := [], laidByText := true, laidKinds := [.data, .data, .data, .data, .pinned], laidTests := true, laidLooks := .later }
def FnExactDifferenceOfCardSaid : Prop := Claim7.holds Tryd.pinned (.plain (OpenSpec.ofChange fnExactDifferenceOfSpec)) fnExactDifferenceOfCard

/-- THE TIED CARD OF 'laws.FnExactTotalOf'. -/
def fnExactTotalOfCard : Claim7 := { stood := { row := fnExactTotalOfRow, standIns := [], harness := (true, "9c9b2197cedf3f20ed81c0592202b9472a525e92c0199048fab2a3233d35b8e6"), looks := true }, kinds := [], alts := [], laidByText := true, laidKinds := [.data, .data, .data, .data, .pinned], laidTests := true, laidLooks := .later }
def FnExactTotalOfCardSaid : Prop := Claim7.holds Tryd.pinned (.plain (OpenSpec.ofChange fnExactTotalOfSpec)) fnExactTotalOfCard

/-- THE TIED CARD OF 'laws.FnMovedBy'. -/
def fnMovedByCard : Claim7 := { stood := { row := fnMovedByRow, standIns := [], harness := (true, "9c9b2197cedf3f20ed81c0592202b9472a525e92c0199048fab2a3233d35b8e6"), looks := true }, kinds := [], alts := [], laidByText := true, laidKinds := [.data, .data, .data, .sentinel, .sentinel], laidTests := true, laidLooks := .later }
def FnMovedByCardSaid : Prop := Claim7.holds Tryd.pinned (.plain (OpenSpec.ofChange fnMovedBySpec)) fnMovedByCard

/-- THE SECOND FORM's CARD OF 'laws.FnValueOf'. -/
def fnValueOfUptoCard : Claim7 := { stood := { row := fnValueOfUptoRow, standIns := [], harness := (true, "9c9b2197cedf3f20ed81c0592202b9472a525e92c0199048fab2a3233d35b8e6"), looks := true }, kinds := [], alts := [], laidByText := true, laidKinds := [.data, .data, .data, .sentinel, .sentinel], laidTests := true, laidLooks := .later }
def FnValueOfUptoCardSaid : Prop := Claim7.holds Tryd.pinned (.plain (OpenSpec.upto fnValueOfSpec)) fnValueOfUptoCard

/-- THE SECOND FORM's CARD OF 'laws.FnDigitAt'. -/
def fnDigitAtUptoCard : Claim7 := { stood := { row := fnDigitAtUptoRow, standIns := [], harness := (true, "9c9b2197cedf3f20ed81c0592202b9472a525e92c0199048fab2a3233d35b8e6"), looks := true }, kinds := [], alts := [], laidByText := true, laidKinds := [.data, .data, .data, .sentinel, .sentinel], laidTests := true, laidLooks := .later }
def FnDigitAtUptoCardSaid : Prop := Claim7.holds Tryd.pinned (.plain (OpenSpec.upto fnDigitAtSpec)) fnDigitAtUptoCard

/-- THE SECOND FORM's CARD OF 'laws.FnNumeralOf'. -/
def fnNumeralOfUptoCard : Claim7 := { stood := { row := fnNumeralOfUptoRow, standIns := [], harness := (true, "9c9b2197cedf3f20ed81c0592202b9472a525e92c0199048fab2a3233d35b8e6"), looks := true }, kinds := [], alts := [], laidByText := true, laidKinds := [.data, .data, .data, .sentinel, .sentinel], laidTests := true, laidLooks := .later }
def FnNumeralOfUptoCardSaid : Prop := Claim7.holds Tryd.pinned (.plain (OpenSpec.upto fnNumeralOfSpec)) fnNumeralOfUptoCard

/-- THE SECOND FORM's CARD OF 'laws.FnDigitSum'. -/
def fnDigitSumUptoCard : Claim7 := { stood := { row := fnDigitSumUptoRow, standIns := [], harness := (true, "9c9b2197cedf3f20ed81c0592202b9472a525e92c0199048fab2a3233d35b8e6"), looks := true }, kinds := [], alts := [], laidByText := true, laidKinds := [.data, .data, .data, .sentinel, .sentinel], laidTests := true, laidLooks := .later }
def FnDigitSumUptoCardSaid : Prop := Claim7.holds Tryd.pinned (.plain (OpenSpec.upto fnDigitSumSpec)) fnDigitSumUptoCard

/-- THE SECOND FORM's CARD OF 'laws.FnNineOf'. -/
def fnNineOfUptoCard : Claim7 := { stood := { row := fnNineOfUptoRow, standIns := [], harness := (true, "9c9b2197cedf3f20ed81c0592202b9472a525e92c0199048fab2a3233d35b8e6"), looks := true }, kinds := [], alts := [], laidByText := true, laidKinds := [.data, .data, .data, .sentinel, .sentinel], laidTests := true, laidLooks := .later }
def FnNineOfUptoCardSaid : Prop := Claim7.holds Tryd.pinned (.plain (OpenSpec.upto fnNineOfSpec)) fnNineOfUptoCard

/-- THE SECOND FORM's CARD OF 'laws.FnOrderOf'. -/
def fnOrderOfUptoCard : Claim7 := { stood := { row := fnOrderOfUptoRow, standIns := [], harness := (true, "9c9b2197cedf3f20ed81c0592202b9472a525e92c0199048fab2a3233d35b8e6"), looks := true }, kinds := [], alts := [], laidByText := true, laidKinds := [.data, .data, .data, .sentinel, .sentinel], laidTests := true, laidLooks := .later }
def FnOrderOfUptoCardSaid : Prop := Claim7.holds Tryd.pinned (.plain (OpenSpec.upto fnOrderOfSpec)) fnOrderOfUptoCard

/-- THE SECOND FORM's CARD OF 'laws.FnElevenOf'. -/
def fnElevenOfUptoCard : Claim7 := { stood := { row := fnElevenOfUptoRow, standIns := [], harness := (true, "9c9b2197cedf3f20ed81c0592202b9472a525e92c0199048fab2a3233d35b8e6"), looks := true }, kinds := [], alts := [], laidByText := true, laidKinds := [.data, .data, .data, .sentinel, .sentinel], laidTests := true, laidLooks := .later }
def FnElevenOfUptoCardSaid : Prop := Claim7.holds Tryd.pinned (.plain (OpenSpec.upto fnElevenOfSpec)) fnElevenOfUptoCard

/-- THE SECOND FORM's CARD OF 'laws.FnExactWrittenOf'. -/
def fnExactWrittenOfUptoCard : Claim7 := { stood := { row := fnExactWrittenOfUptoRow, standIns := [], harness := (true, "9c9b2197cedf3f20ed81c0592202b9472a525e92c0199048fab2a3233d35b8e6"), looks := true }, kinds := [], alts := [], laidByText := true, laidKinds := [.data, .data, .data, .data, .pinned], laidTests := true, laidLooks := .later }
def FnExactWrittenOfUptoCardSaid : Prop := Claim7.holds Tryd.pinned (.plain (OpenSpec.upto fnExactWrittenOfSpec)) fnExactWrittenOfUptoCard

/-- THE SECOND FORM's CARD OF 'laws.FnExactSumOf'. -/
def fnExactSumOfUptoCard : Claim7 := { stood := { row := fnExactSumOfUptoRow, standIns := [], harness := (true, "9c9b2197cedf3f20ed81c0592202b9472a525e92c0199048fab2a3233d35b8e6"), looks := true }, kinds := [], alts := [], laidByText := true, laidKinds := [.data, .data, .data, .data, .pinned], laidTests := true, laidLooks := .later }
def FnExactSumOfUptoCardSaid : Prop := Claim7.holds Tryd.pinned (.plain (OpenSpec.upto fnExactSumOfSpec)) fnExactSumOfUptoCard

/-- THE SECOND FORM's CARD OF 'laws.FnExactDifferenceOf'. -/
def fnExactDifferenceOfUptoCard : Claim7 := { stood := { row := fnExactDifferenceOfUptoRow, standIns := [], harness := (true, "9c9b2197cedf3f20ed81c0592202b9472a525e92c0199048fab2a3233d35b8e6"), looks := true }, kinds := [], alts := [], laidByText := true, laidKinds := [.data, .data, .data, .data, .pinned], laidTests := true, laidLooks := .later }
def FnExactDifferenceOfUptoCardSaid : Prop := Claim7.holds Tryd.pinned (.plain (OpenSpec.upto fnExactDifferenceOfSpec)) fnExactDifferenceOfUptoCard

/-- THE SECOND FORM's CARD OF 'laws.FnExactTotalOf'. -/
def fnExactTotalOfUptoCard : Claim7 := { stood := { row := fnExactTotalOfUptoRow, standIns := [], harness := (true, "9c9b2197cedf3f20ed81c0592202b9472a525e92c0199048fab2a3233d35b8e6"), looks := true }, kinds := [], alts := [], laidByText := true, laidKinds := [.data, .data, .data, .data, .pinned], laidTests := true, laidLooks := .later }
def FnExactTotalOfUptoCardSaid : Prop := Claim7.holds Tryd.pinned (.plain (OpenSpec.upto fnExactTotalOfSpec)) fnExactTotalOfUptoCard

/-- THE SECOND FORM's CARD OF 'laws.FnMovedBy'. -/
def fnMovedByUptoCard : Claim7 := { stood := { row := fnMovedByUptoRow, standIns := [], harness := (true, "9c9b2197cedf3f20ed81c0592202b9472a525e92c0199048fab2a3233d35b8e6"), looks := true }, kinds := [], alts := [], laidByText := true, laidKinds := [.data, .data, .data, .sentinel, .sentinel], laidTests := true, laidLooks := .later }
def FnMovedByUptoCardSaid : Prop := Claim7.holds Tryd.pinned (.plain (OpenSpec.upto fnMovedBySpec)) fnMovedByUptoCard
end Rows
end Go.Proofs.YthddidjdgbdlbaaDoor
