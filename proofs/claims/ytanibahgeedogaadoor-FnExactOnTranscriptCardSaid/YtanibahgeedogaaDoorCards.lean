/-
  DERIVED. GIVEN WITH THE SEED: THE CARDS: each row of YtanibahgeedogaaDoorRows.lean that lists a variable, with what it lists TIED to the program's text (the seventh form; the later family's looks); each row that meets fmt, with fmt's text TOLD by the authors' own Lean function (tested against real Go, not proved from fmt's source: count such statements apart). THE CARD IS WHAT COUNTS. Prove the row's statement (the work); the ties are given (YtanibahgeedogaaDoorTie.lean); close each card by the builder's one call (the guide's Derived/Test/ToyasCard.lean, 'card_holds'). Laid BY PROGRAM, IN A SANDBOX (cutbox-door.mjs). By AI agents, Wed Nov 11 2026. No macro, syntax, notation, axiom, sorry.
-/
import Derived.Test.YtanibahgeedogaaDoorRows
import GoSem.ClaimSeven
namespace Go.Proofs.YtanibahgeedogaaDoor
namespace Rows

/-- THE TIED CARD OF 'laws.FnExactNumeralOf'. -/
def fnExactNumeralOfCard : Claim7 := { stood := { row := fnExactNumeralOfRow, standIns := [], harness := (true, "2f66631861b36e2b62d7a35f0fefc03ef14f037bc7a50019bbc2ff6e9db9cad5"), looks := true }, kinds := [], alts := [], laidByText := true, laidKinds := [.data, .data, .data], laidTests := true, laidLooks := .later }
def FnExactNumeralOfCardSaid : Prop := Claim7.holds Tryd.pinned (.plain (OpenSpec.ofChange fnExactNumeralOfSpec)) fnExactNumeralOfCard

/-- THE TIED CARD OF 'laws.FnExactValueOf'. -/
def fnExactValueOfCard : Claim7 := { stood := { row := fnExactValueOfRow, standIns := [], harness := (true, "2f66631861b36e2b62d7a35f0fefc03ef14f037bc7a50019bbc2ff6e9db9cad5"), looks := true }, kinds := [], alts := [], laidByText := true, laidKinds := [.data, .data, .data, .sentinel, .sentinel], laidTests := true, laidLooks := .later }
def FnExactValueOfCardSaid : Prop := Claim7.holds Tryd.pinned (.plain (OpenSpec.ofChange fnExactValueOfSpec)) fnExactValueOfCard

/-- THE TIED CARD OF 'laws.FnExactOnTranscript'. -/
def fnExactOnTranscriptCard : Claim7 := { stood := { row := fnExactOnTranscriptRow, standIns := [], harness := (true, "2f66631861b36e2b62d7a35f0fefc03ef14f037bc7a50019bbc2ff6e9db9cad5"), looks := true }, kinds := [], alts := [], laidByText := true, laidKinds := [.data, .data, .data, .data, .pinned], laidTests := true, laidLooks := .later }
def FnExactOnTranscriptCardSaid : Prop := Claim7.holds Tryd.pinned (.plain (OpenSpec.ofChange fnExactOnTranscriptSpec)) fnExactOnTranscriptCard

/-- THE TIED CARD OF 'laws.FnExactLeftOf'. -/
def fnExactLeftOfCard : Claim7 := { stood := { row := fnExactLeftOfRow, standIns := [], harness := (true, "2f66631861b36e2b62d7a35f0fefc03ef14f037bc7a50019bbc2ff6e9db9cad5"), looks := true }, kinds := [], alts := [], laidByText := true, laidKinds := [.data, .data, .data, .data, .pinned], laidTests := true, laidLooks := .later }
def FnExactLeftOfCardSaid : Prop := Claim7.holds Tryd.pinned (.plain (OpenSpec.ofChange fnExactLeftOfSpec)) fnExactLeftOfCard

/-- THE TIED CARD OF 'laws.FnExactRowWritten'. -/
def fnExactRowWrittenCard : Claim7 := { stood := { row := fnExactRowWrittenRow, standIns := [], harness := (true, "2f66631861b36e2b62d7a35f0fefc03ef14f037bc7a50019bbc2ff6e9db9cad5"), looks := true }, kinds := [], alts := [], laidByText := true, laidKinds := [.data, .data, .data, .data, .pinned], laidTests := true, laidLooks := .later }
def FnExactRowWrittenCardSaid : Prop := Claim7.holds Tryd.pinned (.plain (OpenSpec.ofChange fnExactRowWrittenSpec)) fnExactRowWrittenCard

/-- THE SECOND FORM's CARD OF 'laws.FnExactNumeralOf'. -/
def fnExactNumeralOfUptoCard : Claim7 := { stood := { row := fnExactNumeralOfUptoRow, standIns := [], harness := (true, "2f66631861b36e2b62d7a35f0fefc03ef14f037bc7a50019bbc2ff6e9db9cad5"), looks := true }, kinds := [], alts := [], laidByText := true, laidKinds := [.data, .data, .data], laidTests := true, laidLooks := .later }
def FnExactNumeralOfUptoCardSaid : Prop := Claim7.holds Tryd.pinned (.plain (OpenSpec.upto fnExactNumeralOfSpec)) fnExactNumeralOfUptoCard

/-- THE SECOND FORM's CARD OF 'laws.FnExactValueOf'. -/
def fnExactValueOfUptoCard : Claim7 := { stood := { row := fnExactValueOfUptoRow, standIns := [], harness := (true, "2f66631861b36e2b62d7a35f0fefc03ef14f037bc7a50019bbc2ff6e9db9cad5"), looks := true }, kinds := [], alts := [], laidByText := true, laidKinds := [.data, .data, .data, .sentinel, .sentinel], laidTests := true, laidLooks := .later }
def FnExactValueOfUptoCardSaid : Prop := Claim7.holds Tryd.pinned (.plain (OpenSpec.upto fnExactValueOfSpec)) fnExactValueOfUptoCard

/-- THE SECOND FORM's CARD OF 'laws.FnExactOnTranscript'. -/
def fnExactOnTranscriptUptoCard : Claim7 := { stood := { row := fnExactOnTranscriptUptoRow, standIns := [], harness := (true, "2f66631861b36e2b62d7a35f0fefc03ef14f037bc7a50019bbc2ff6e9db9cad5"), looks := true }, kinds := [], alts := [], laidByText := true, laidKinds := [.data, .data, .data, .data, .pinned], laidTests := true, laidLooks := .later }
def FnExactOnTranscriptUptoCardSaid : Prop := Claim7.holds Tryd.pinned (.plain (OpenSpec.upto fnExactOnTranscriptSpec)) fnExactOnTranscriptUptoCard

/-- THE SECOND FORM's CARD OF 'laws.FnExactLeftOf'. -/
def fnExactLeftOfUptoCard : Claim7 := { stood := { row := fnExactLeftOfUptoRow, standIns := [], harness := (true, "2f66631861b36e2b62d7a35f0fefc03ef14f037bc7a50019bbc2ff6e9db9cad5"), looks := true }, kinds := [], alts := [], laidByText := true, laidKinds := [.data, .data, .data, .data, .pinned], laidTests := true, laidLooks := .later }
def FnExactLeftOfUptoCardSaid : Prop := Claim7.holds Tryd.pinned (.plain (OpenSpec.upto fnExactLeftOfSpec)) fnExactLeftOfUptoCard

/-- THE SECOND FORM's CARD OF 'laws.FnExactRowWritten'. -/
def fnExactRowWrittenUptoCard : Claim7 := { stood := { row := fnExactRowWrittenUptoRow, standIns := [], harness := (true, "2f66631861b36e2b62d7a35f0fefc03ef14f037bc7a50019bbc2ff6e9db9cad5"), looks := true }, kinds := [], alts := [], laidByText := true, laidKinds := [.data, .data, .data, .data, .pinned], laidTests := true, laidLooks := .later }
def FnExactRowWrittenUptoCardSaid : Prop := Claim7.holds Tryd.pinned (.plain (OpenSpec.upto fnExactRowWrittenSpec)) fnExactRowWrittenUptoCard
end Rows
end Go.Proofs.YtanibahgeedogaaDoor
