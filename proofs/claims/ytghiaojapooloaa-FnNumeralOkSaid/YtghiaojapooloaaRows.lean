/-
  No cell of these rows narrows 'for every input' (looked for: loops, veiled, ifaces, maps, wideKeys, modest, calm, conditions, laid).
  DERIVED. THE GIVEN ROWS OF THIS SEAT. 12 by the template 'for every input the law returns true; each argument reads behind the call as it read before'; 0 by the template 'total and deterministic' (their statements: YtghiaojapooloaaTotals.lean).
  GIVEN WITH THE SEED: the statements are not yours to turn. If you find one false, say at which input.
  Laid BY PROGRAM, IN A SANDBOX (cutbox-rows.mjs): the forced cells as the released guide's own fill.sh prints them over the translation 3ac10c00810be574… (all of the seat's roots in one cut). By AI agents, Wed Nov 11 2026. No macro, syntax, notation, axiom, sorry.
-/
import Derived.Test.YtghiaojapooloaaChecked
import GoSem.Claim
import GoSem.ClaimJoined
import GoSem.ClaimMapViews
import Derived.JoinedTies
import Derived.KernelRfl
namespace Go.Proofs.Ytghiaojapooloaa
/- THE CELL 'sum', in the pinned program and in every row, IS THE sha256 OF THE DUMP (.gsa) THAT YtghiaojapooloaaProg.lean LOADS. Nothing in Lean hashes anything: it is a label: what it is worth is what the hold of that sum in a sandbox is worth. -/
noncomputable def Try.pinned : Pinned := { name := "ytghiaojapooloaa", sum := "3ac10c00810be574c209d20926e7fcc02f79ed9f2209e1411689660d80cdb86a", checked := Try.checked }
namespace Rows
def none {H : Type} : Left H := { results := [], args := [] }

/-- 'laws.FnExactConstants': WHATEVER THE INPUT: true; the input reads as it did. -/
def fnExactConstantsSpec : ChangeSpec := { name := "fnExactConstants", fn := fun _ => fun
  | [] => { results := [.lit (.bool true)], args := [] }
  | _ => none }
def fnExactConstantsRow : OpenClaim := { program := "ytghiaojapooloaa", sum := "3ac10c00810be574c209d20926e7fcc02f79ed9f2209e1411689660d80cdb86a", func := "loop.example/sumschool/laws.FnExactConstants", spec := "fnExactConstants", apart := false }
def FnExactConstantsSaid : Prop := fnExactConstantsRow.holds Try.pinned (OpenSpec.ofChange fnExactConstantsSpec)

/-- ITS FALSE NEIGHBOUR: 'it returns false'. Refute it at one input. -/
def fnExactConstantsWrong : ChangeSpec := { name := "fnExactConstants", fn := fun _ => fun
  | [] => { results := [.lit (.bool false)], args := [] }
  | _ => none }
def FnExactConstantsWrongFalsely : Prop := fnExactConstantsRow.holds Try.pinned (OpenSpec.ofChange fnExactConstantsWrong)

/-- 'laws.FnExactNumeralOk': WHATEVER THE INPUT: true; the input reads as it did. -/
def fnExactNumeralOkSpec : ChangeSpec := { name := "fnExactNumeralOk", fn := fun _ => fun
  | [d] => { results := [.lit (.bool true)], args := [d] }
  | _ => none }
def fnExactNumeralOkRow : OpenClaim := { program := "ytghiaojapooloaa", sum := "3ac10c00810be574c209d20926e7fcc02f79ed9f2209e1411689660d80cdb86a", func := "loop.example/sumschool/laws.FnExactNumeralOk", spec := "fnExactNumeralOk", apart := false }
def FnExactNumeralOkSaid : Prop := fnExactNumeralOkRow.holds Try.pinned (OpenSpec.ofChange fnExactNumeralOkSpec)

/-- ITS FALSE NEIGHBOUR: 'it returns false'. Refute it at one input. -/
def fnExactNumeralOkWrong : ChangeSpec := { name := "fnExactNumeralOk", fn := fun _ => fun
  | [d] => { results := [.lit (.bool false)], args := [d] }
  | _ => none }
def FnExactNumeralOkWrongFalsely : Prop := fnExactNumeralOkRow.holds Try.pinned (OpenSpec.ofChange fnExactNumeralOkWrong)

/-- 'laws.FnExactDigitAt': WHATEVER THE INPUT: true; the input reads as it did. -/
def fnExactDigitAtSpec : ChangeSpec := { name := "fnExactDigitAt", fn := fun _ => fun
  | [d1, d2] => { results := [.lit (.bool true)], args := [d1, d2] }
  | _ => none }
def fnExactDigitAtRow : OpenClaim := { program := "ytghiaojapooloaa", sum := "3ac10c00810be574c209d20926e7fcc02f79ed9f2209e1411689660d80cdb86a", func := "loop.example/sumschool/laws.FnExactDigitAt", spec := "fnExactDigitAt", apart := false }
def FnExactDigitAtSaid : Prop := fnExactDigitAtRow.holds Try.pinned (OpenSpec.ofChange fnExactDigitAtSpec)

/-- ITS FALSE NEIGHBOUR: 'it returns false'. Refute it at one input. -/
def fnExactDigitAtWrong : ChangeSpec := { name := "fnExactDigitAt", fn := fun _ => fun
  | [d1, d2] => { results := [.lit (.bool false)], args := [d1, d2] }
  | _ => none }
def FnExactDigitAtWrongFalsely : Prop := fnExactDigitAtRow.holds Try.pinned (OpenSpec.ofChange fnExactDigitAtWrong)

/-- 'laws.FnExactDigitSum': WHATEVER THE INPUT: true; the input reads as it did. -/
def fnExactDigitSumSpec : ChangeSpec := { name := "fnExactDigitSum", fn := fun _ => fun
  | [d] => { results := [.lit (.bool true)], args := [d] }
  | _ => none }
def fnExactDigitSumRow : OpenClaim := { program := "ytghiaojapooloaa", sum := "3ac10c00810be574c209d20926e7fcc02f79ed9f2209e1411689660d80cdb86a", func := "loop.example/sumschool/laws.FnExactDigitSum", spec := "fnExactDigitSum", apart := false }
def FnExactDigitSumSaid : Prop := fnExactDigitSumRow.holds Try.pinned (OpenSpec.ofChange fnExactDigitSumSpec)

/-- ITS FALSE NEIGHBOUR: 'it returns false'. Refute it at one input. -/
def fnExactDigitSumWrong : ChangeSpec := { name := "fnExactDigitSum", fn := fun _ => fun
  | [d] => { results := [.lit (.bool false)], args := [d] }
  | _ => none }
def FnExactDigitSumWrongFalsely : Prop := fnExactDigitSumRow.holds Try.pinned (OpenSpec.ofChange fnExactDigitSumWrong)

/-- 'laws.FnExactOrderOf': WHATEVER THE INPUT: true; the input reads as it did. -/
def fnExactOrderOfSpec : ChangeSpec := { name := "fnExactOrderOf", fn := fun _ => fun
  | [d1, d2] => { results := [.lit (.bool true)], args := [d1, d2] }
  | _ => none }
def fnExactOrderOfRow : OpenClaim := { program := "ytghiaojapooloaa", sum := "3ac10c00810be574c209d20926e7fcc02f79ed9f2209e1411689660d80cdb86a", func := "loop.example/sumschool/laws.FnExactOrderOf", spec := "fnExactOrderOf", inPlace := ["internal/bytealg.abigen_runtime_cmpstring"], apart := false }
def FnExactOrderOfSaid : Prop := fnExactOrderOfRow.holds Try.pinned (OpenSpec.ofChange fnExactOrderOfSpec)

/-- ITS FALSE NEIGHBOUR: 'it returns false'. Refute it at one input. -/
def fnExactOrderOfWrong : ChangeSpec := { name := "fnExactOrderOf", fn := fun _ => fun
  | [d1, d2] => { results := [.lit (.bool false)], args := [d1, d2] }
  | _ => none }
def FnExactOrderOfWrongFalsely : Prop := fnExactOrderOfRow.holds Try.pinned (OpenSpec.ofChange fnExactOrderOfWrong)

/-- 'laws.FnExactNineOf': WHATEVER THE INPUT: true; the input reads as it did. -/
def fnExactNineOfSpec : ChangeSpec := { name := "fnExactNineOf", fn := fun _ => fun
  | [d] => { results := [.lit (.bool true)], args := [d] }
  | _ => none }
def fnExactNineOfRow : OpenClaim := { program := "ytghiaojapooloaa", sum := "3ac10c00810be574c209d20926e7fcc02f79ed9f2209e1411689660d80cdb86a", func := "loop.example/sumschool/laws.FnExactNineOf", spec := "fnExactNineOf", recurses := true, apart := false }
def FnExactNineOfSaid : Prop := fnExactNineOfRow.holds Try.pinned (OpenSpec.ofChange fnExactNineOfSpec)

/-- ITS FALSE NEIGHBOUR: 'it returns false'. Refute it at one input. -/
def fnExactNineOfWrong : ChangeSpec := { name := "fnExactNineOf", fn := fun _ => fun
  | [d] => { results := [.lit (.bool false)], args := [d] }
  | _ => none }
def FnExactNineOfWrongFalsely : Prop := fnExactNineOfRow.holds Try.pinned (OpenSpec.ofChange fnExactNineOfWrong)

/-- 'laws.FnNumeralOk': WHATEVER THE INPUT: true; the input reads as it did. -/
def fnNumeralOkSpec : ChangeSpec := { name := "fnNumeralOk", fn := fun _ => fun
  | [d] => { results := [.lit (.bool true)], args := [d] }
  | _ => none }
def fnNumeralOkRow : OpenClaim := { program := "ytghiaojapooloaa", sum := "3ac10c00810be574c209d20926e7fcc02f79ed9f2209e1411689660d80cdb86a", func := "loop.example/sumschool/laws.FnNumeralOk", spec := "fnNumeralOk", recurses := true, apart := false }
def FnNumeralOkSaid : Prop := fnNumeralOkRow.holds Try.pinned (OpenSpec.ofChange fnNumeralOkSpec)

/-- ITS FALSE NEIGHBOUR: 'it returns false'. Refute it at one input. -/
def fnNumeralOkWrong : ChangeSpec := { name := "fnNumeralOk", fn := fun _ => fun
  | [d] => { results := [.lit (.bool false)], args := [d] }
  | _ => none }
def FnNumeralOkWrongFalsely : Prop := fnNumeralOkRow.holds Try.pinned (OpenSpec.ofChange fnNumeralOkWrong)

/-- 'laws.FnExactElevenOf': WHATEVER THE INPUT: true; the input reads as it did. -/
def fnExactElevenOfSpec : ChangeSpec := { name := "fnExactElevenOf", fn := fun _ => fun
  | [d] => { results := [.lit (.bool true)], args := [d] }
  | _ => none }
def fnExactElevenOfRow : OpenClaim := { program := "ytghiaojapooloaa", sum := "3ac10c00810be574c209d20926e7fcc02f79ed9f2209e1411689660d80cdb86a", func := "loop.example/sumschool/laws.FnExactElevenOf", spec := "fnExactElevenOf", apart := false }
def FnExactElevenOfSaid : Prop := fnExactElevenOfRow.holds Try.pinned (OpenSpec.ofChange fnExactElevenOfSpec)

/-- ITS FALSE NEIGHBOUR: 'it returns false'. Refute it at one input. -/
def fnExactElevenOfWrong : ChangeSpec := { name := "fnExactElevenOf", fn := fun _ => fun
  | [d] => { results := [.lit (.bool false)], args := [d] }
  | _ => none }
def FnExactElevenOfWrongFalsely : Prop := fnExactElevenOfRow.holds Try.pinned (OpenSpec.ofChange fnExactElevenOfWrong)

/-- 'laws.FnExactWrongRow': WHATEVER THE INPUT: true; the input reads as it did. -/
def fnExactWrongRowSpec : ChangeSpec := { name := "fnExactWrongRow", fn := fun _ => fun
  | [d] => { results := [.lit (.bool true)], args := [d] }
  | _ => none }
def fnExactWrongRowRow : OpenClaim := { program := "ytghiaojapooloaa", sum := "3ac10c00810be574c209d20926e7fcc02f79ed9f2209e1411689660d80cdb86a", func := "loop.example/sumschool/laws.FnExactWrongRow", spec := "fnExactWrongRow", unfollowed := true, recurses := true, apart := false }
def FnExactWrongRowSaid : Prop := fnExactWrongRowRow.holds Try.pinned (OpenSpec.ofChange fnExactWrongRowSpec)

/-- ITS FALSE NEIGHBOUR: 'it returns false'. Refute it at one input. -/
def fnExactWrongRowWrong : ChangeSpec := { name := "fnExactWrongRow", fn := fun _ => fun
  | [d] => { results := [.lit (.bool false)], args := [d] }
  | _ => none }
def FnExactWrongRowWrongFalsely : Prop := fnExactWrongRowRow.holds Try.pinned (OpenSpec.ofChange fnExactWrongRowWrong)

/-- 'laws.FnExactWrongColumn': WHATEVER THE INPUT: true; the input reads as it did. -/
def fnExactWrongColumnSpec : ChangeSpec := { name := "fnExactWrongColumn", fn := fun _ => fun
  | [d] => { results := [.lit (.bool true)], args := [d] }
  | _ => none }
def fnExactWrongColumnRow : OpenClaim := { program := "ytghiaojapooloaa", sum := "3ac10c00810be574c209d20926e7fcc02f79ed9f2209e1411689660d80cdb86a", func := "loop.example/sumschool/laws.FnExactWrongColumn", spec := "fnExactWrongColumn", unfollowed := true, recurses := true, apart := false }
def FnExactWrongColumnSaid : Prop := fnExactWrongColumnRow.holds Try.pinned (OpenSpec.ofChange fnExactWrongColumnSpec)

/-- ITS FALSE NEIGHBOUR: 'it returns false'. Refute it at one input. -/
def fnExactWrongColumnWrong : ChangeSpec := { name := "fnExactWrongColumn", fn := fun _ => fun
  | [d] => { results := [.lit (.bool false)], args := [d] }
  | _ => none }
def FnExactWrongColumnWrongFalsely : Prop := fnExactWrongColumnRow.holds Try.pinned (OpenSpec.ofChange fnExactWrongColumnWrong)

/-- 'laws.FnExactWrongTaken': WHATEVER THE INPUT: true; the input reads as it did. -/
def fnExactWrongTakenSpec : ChangeSpec := { name := "fnExactWrongTaken", fn := fun _ => fun
  | [d] => { results := [.lit (.bool true)], args := [d] }
  | _ => none }
def fnExactWrongTakenRow : OpenClaim := { program := "ytghiaojapooloaa", sum := "3ac10c00810be574c209d20926e7fcc02f79ed9f2209e1411689660d80cdb86a", func := "loop.example/sumschool/laws.FnExactWrongTaken", spec := "fnExactWrongTaken", unfollowed := true, recurses := true, apart := false }
def FnExactWrongTakenSaid : Prop := fnExactWrongTakenRow.holds Try.pinned (OpenSpec.ofChange fnExactWrongTakenSpec)

/-- ITS FALSE NEIGHBOUR: 'it returns false'. Refute it at one input. -/
def fnExactWrongTakenWrong : ChangeSpec := { name := "fnExactWrongTaken", fn := fun _ => fun
  | [d] => { results := [.lit (.bool false)], args := [d] }
  | _ => none }
def FnExactWrongTakenWrongFalsely : Prop := fnExactWrongTakenRow.holds Try.pinned (OpenSpec.ofChange fnExactWrongTakenWrong)

/-- 'laws.FnExactCarriesIn': WHATEVER THE INPUT: true; the input reads as it did. -/
def fnExactCarriesInSpec : ChangeSpec := { name := "fnExactCarriesIn", fn := fun _ => fun
  | [d] => { results := [.lit (.bool true)], args := [d] }
  | _ => none }
def fnExactCarriesInRow : OpenClaim := { program := "ytghiaojapooloaa", sum := "3ac10c00810be574c209d20926e7fcc02f79ed9f2209e1411689660d80cdb86a", func := "loop.example/sumschool/laws.FnExactCarriesIn", spec := "fnExactCarriesIn", unfollowed := true, recurses := true, apart := false }
def FnExactCarriesInSaid : Prop := fnExactCarriesInRow.holds Try.pinned (OpenSpec.ofChange fnExactCarriesInSpec)

/-- ITS FALSE NEIGHBOUR: 'it returns false'. Refute it at one input. -/
def fnExactCarriesInWrong : ChangeSpec := { name := "fnExactCarriesIn", fn := fun _ => fun
  | [d] => { results := [.lit (.bool false)], args := [d] }
  | _ => none }
def FnExactCarriesInWrongFalsely : Prop := fnExactCarriesInRow.holds Try.pinned (OpenSpec.ofChange fnExactCarriesInWrong)

/- THE SECOND FORM. 'bulk': how many values and letters a reading holds, each counted each time it is reached (what is shared counts as often as it is met; a slice's spare places count too). A statement '..UptoSaid' is the law's where the arguments, and the package variables that the reading takes, are together of bulk at most 1048576: NARROWER than '..Said'. Prove '..Said' where nothing that the law and all that it calls make is longer than what came in: it says more and counts as full. Else prove '..UptoSaid'. A law counts once. -/
mutual
def uptoBulk {H : Type} : DataW H → Nat
  | .lit (.string bytes) => bytes.length + 1
  | .lit _ => 1
  | .nil => 1
  | .ptr d => uptoBulk d + 1
  | .slice elems spare => uptoBulkAll elems + uptoBulkAll spare + 1
  | .agg parts => uptoBulkAll parts + 1
  | .iface _ d => uptoBulk d + 1
  | .map entries => uptoBulkEntries entries + 1
  | .held _ => 1
def uptoBulkAll {H : Type} : List (DataW H) → Nat
  | [] => 0
  | d :: r => uptoBulk d + uptoBulkAll r
def uptoBulkEntries {H : Type} : List (Lit × DataW H) → Nat
  | [] => 0
  | x :: r => uptoBulkEntry x + uptoBulkEntries r
def uptoBulkEntry {H : Type} : Lit × DataW H → Nat
  | (.string bytes, d) => bytes.length + uptoBulk d + 1
  | (_, d) => uptoBulk d + 1
 end
def uptoSmall : (H : Type) → List (DataW H) → Bool := fun _ ds => decide (uptoBulkAll ds ≤ 1048576)
def OpenSpec.upto (s : _root_.Go.ChangeSpec) : _root_.Go.OpenSpec := { _root_.Go.OpenSpec.ofChange s with cond := some uptoSmall }

/-- 'laws.FnExactConstants', WHERE WHAT IT READS IS OF BULK AT MOST 1048576: true; the input reads as it did. -/
def fnExactConstantsUptoRow : OpenClaim := { program := "ytghiaojapooloaa", sum := "3ac10c00810be574c209d20926e7fcc02f79ed9f2209e1411689660d80cdb86a", func := "loop.example/sumschool/laws.FnExactConstants", spec := "fnExactConstants", apart := false, narrowed := true }
def FnExactConstantsUptoSaid : Prop := fnExactConstantsUptoRow.holds Try.pinned (OpenSpec.upto fnExactConstantsSpec)

/-- 'laws.FnExactNumeralOk', WHERE WHAT IT READS IS OF BULK AT MOST 1048576: true; the input reads as it did. -/
def fnExactNumeralOkUptoRow : OpenClaim := { program := "ytghiaojapooloaa", sum := "3ac10c00810be574c209d20926e7fcc02f79ed9f2209e1411689660d80cdb86a", func := "loop.example/sumschool/laws.FnExactNumeralOk", spec := "fnExactNumeralOk", apart := false, narrowed := true }
def FnExactNumeralOkUptoSaid : Prop := fnExactNumeralOkUptoRow.holds Try.pinned (OpenSpec.upto fnExactNumeralOkSpec)

/-- 'laws.FnExactDigitAt', WHERE WHAT IT READS IS OF BULK AT MOST 1048576: true; the input reads as it did. -/
def fnExactDigitAtUptoRow : OpenClaim := { program := "ytghiaojapooloaa", sum := "3ac10c00810be574c209d20926e7fcc02f79ed9f2209e1411689660d80cdb86a", func := "loop.example/sumschool/laws.FnExactDigitAt", spec := "fnExactDigitAt", apart := false, narrowed := true }
def FnExactDigitAtUptoSaid : Prop := fnExactDigitAtUptoRow.holds Try.pinned (OpenSpec.upto fnExactDigitAtSpec)

/-- 'laws.FnExactDigitSum', WHERE WHAT IT READS IS OF BULK AT MOST 1048576: true; the input reads as it did. -/
def fnExactDigitSumUptoRow : OpenClaim := { program := "ytghiaojapooloaa", sum := "3ac10c00810be574c209d20926e7fcc02f79ed9f2209e1411689660d80cdb86a", func := "loop.example/sumschool/laws.FnExactDigitSum", spec := "fnExactDigitSum", apart := false, narrowed := true }
def FnExactDigitSumUptoSaid : Prop := fnExactDigitSumUptoRow.holds Try.pinned (OpenSpec.upto fnExactDigitSumSpec)

/-- 'laws.FnExactOrderOf', WHERE WHAT IT READS IS OF BULK AT MOST 1048576: true; the input reads as it did. -/
def fnExactOrderOfUptoRow : OpenClaim := { program := "ytghiaojapooloaa", sum := "3ac10c00810be574c209d20926e7fcc02f79ed9f2209e1411689660d80cdb86a", func := "loop.example/sumschool/laws.FnExactOrderOf", spec := "fnExactOrderOf", inPlace := ["internal/bytealg.abigen_runtime_cmpstring"], apart := false, narrowed := true }
def FnExactOrderOfUptoSaid : Prop := fnExactOrderOfUptoRow.holds Try.pinned (OpenSpec.upto fnExactOrderOfSpec)

/-- 'laws.FnExactNineOf', WHERE WHAT IT READS IS OF BULK AT MOST 1048576: true; the input reads as it did. -/
def fnExactNineOfUptoRow : OpenClaim := { program := "ytghiaojapooloaa", sum := "3ac10c00810be574c209d20926e7fcc02f79ed9f2209e1411689660d80cdb86a", func := "loop.example/sumschool/laws.FnExactNineOf", spec := "fnExactNineOf", recurses := true, apart := false, narrowed := true }
def FnExactNineOfUptoSaid : Prop := fnExactNineOfUptoRow.holds Try.pinned (OpenSpec.upto fnExactNineOfSpec)

/-- 'laws.FnNumeralOk', WHERE WHAT IT READS IS OF BULK AT MOST 1048576: true; the input reads as it did. -/
def fnNumeralOkUptoRow : OpenClaim := { program := "ytghiaojapooloaa", sum := "3ac10c00810be574c209d20926e7fcc02f79ed9f2209e1411689660d80cdb86a", func := "loop.example/sumschool/laws.FnNumeralOk", spec := "fnNumeralOk", recurses := true, apart := false, narrowed := true }
def FnNumeralOkUptoSaid : Prop := fnNumeralOkUptoRow.holds Try.pinned (OpenSpec.upto fnNumeralOkSpec)

/-- 'laws.FnExactElevenOf', WHERE WHAT IT READS IS OF BULK AT MOST 1048576: true; the input reads as it did. -/
def fnExactElevenOfUptoRow : OpenClaim := { program := "ytghiaojapooloaa", sum := "3ac10c00810be574c209d20926e7fcc02f79ed9f2209e1411689660d80cdb86a", func := "loop.example/sumschool/laws.FnExactElevenOf", spec := "fnExactElevenOf", apart := false, narrowed := true }
def FnExactElevenOfUptoSaid : Prop := fnExactElevenOfUptoRow.holds Try.pinned (OpenSpec.upto fnExactElevenOfSpec)

/-- 'laws.FnExactWrongRow', WHERE WHAT IT READS IS OF BULK AT MOST 1048576: true; the input reads as it did. -/
def fnExactWrongRowUptoRow : OpenClaim := { program := "ytghiaojapooloaa", sum := "3ac10c00810be574c209d20926e7fcc02f79ed9f2209e1411689660d80cdb86a", func := "loop.example/sumschool/laws.FnExactWrongRow", spec := "fnExactWrongRow", unfollowed := true, recurses := true, apart := false, narrowed := true }
def FnExactWrongRowUptoSaid : Prop := fnExactWrongRowUptoRow.holds Try.pinned (OpenSpec.upto fnExactWrongRowSpec)

/-- 'laws.FnExactWrongColumn', WHERE WHAT IT READS IS OF BULK AT MOST 1048576: true; the input reads as it did. -/
def fnExactWrongColumnUptoRow : OpenClaim := { program := "ytghiaojapooloaa", sum := "3ac10c00810be574c209d20926e7fcc02f79ed9f2209e1411689660d80cdb86a", func := "loop.example/sumschool/laws.FnExactWrongColumn", spec := "fnExactWrongColumn", unfollowed := true, recurses := true, apart := false, narrowed := true }
def FnExactWrongColumnUptoSaid : Prop := fnExactWrongColumnUptoRow.holds Try.pinned (OpenSpec.upto fnExactWrongColumnSpec)

/-- 'laws.FnExactWrongTaken', WHERE WHAT IT READS IS OF BULK AT MOST 1048576: true; the input reads as it did. -/
def fnExactWrongTakenUptoRow : OpenClaim := { program := "ytghiaojapooloaa", sum := "3ac10c00810be574c209d20926e7fcc02f79ed9f2209e1411689660d80cdb86a", func := "loop.example/sumschool/laws.FnExactWrongTaken", spec := "fnExactWrongTaken", unfollowed := true, recurses := true, apart := false, narrowed := true }
def FnExactWrongTakenUptoSaid : Prop := fnExactWrongTakenUptoRow.holds Try.pinned (OpenSpec.upto fnExactWrongTakenSpec)

/-- 'laws.FnExactCarriesIn', WHERE WHAT IT READS IS OF BULK AT MOST 1048576: true; the input reads as it did. -/
def fnExactCarriesInUptoRow : OpenClaim := { program := "ytghiaojapooloaa", sum := "3ac10c00810be574c209d20926e7fcc02f79ed9f2209e1411689660d80cdb86a", func := "loop.example/sumschool/laws.FnExactCarriesIn", spec := "fnExactCarriesIn", unfollowed := true, recurses := true, apart := false, narrowed := true }
def FnExactCarriesInUptoSaid : Prop := fnExactCarriesInUptoRow.holds Try.pinned (OpenSpec.upto fnExactCarriesInSpec)

end Rows
end Go.Proofs.Ytghiaojapooloaa
