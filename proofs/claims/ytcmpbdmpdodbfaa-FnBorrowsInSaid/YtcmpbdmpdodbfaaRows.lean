/-
  No cell of these rows narrows 'for every input' (looked for: loops, veiled, ifaces, maps, wideKeys, modest, calm, conditions, laid).
  DERIVED. THE GIVEN ROWS OF THIS SEAT. 5 by the template 'for every input the law returns true; each argument reads behind the call as it read before'; 0 by the template 'total and deterministic' (their statements: YtcmpbdmpdodbfaaTotals.lean).
  GIVEN WITH THE SEED: the statements are not yours to turn. If you find one false, say at which input.
  Laid BY PROGRAM, IN A SANDBOX (cutbox-rows.mjs): the forced cells as the released guide's own fill.sh prints them over the translation dbd17bdd0897a696… (all of the seat's roots in one cut). By AI agents, Wed Nov 11 2026. No macro, syntax, notation, axiom, sorry.
-/
import Derived.Test.YtcmpbdmpdodbfaaChecked
import GoSem.Claim
import GoSem.ClaimJoined
import GoSem.ClaimMapViews
import Derived.JoinedTies
import Derived.KernelRfl
namespace Go.Proofs.Ytcmpbdmpdodbfaa
/- THE CELL 'sum', in the pinned program and in every row, IS THE sha256 OF THE DUMP (.gsa) THAT YtcmpbdmpdodbfaaProg.lean LOADS. Nothing in Lean hashes anything: it is a label: what it is worth is what the hold of that sum in a sandbox is worth. -/
noncomputable def Try.pinned : Pinned := { name := "ytcmpbdmpdodbfaa", sum := "dbd17bdd0897a696d704c2f4c75dcc2028c7d26e791108ad7b958fcf209aff65", checked := Try.checked }
namespace Rows
def none {H : Type} : Left H := { results := [], args := [] }

/-- 'laws.FnWrongRow': WHATEVER THE INPUT: true; the input reads as it did. -/
def fnWrongRowSpec : ChangeSpec := { name := "fnWrongRow", fn := fun _ => fun
  | [d] => { results := [.lit (.bool true)], args := [d] }
  | _ => none }
def fnWrongRowRow : OpenClaim := { program := "ytcmpbdmpdodbfaa", sum := "dbd17bdd0897a696d704c2f4c75dcc2028c7d26e791108ad7b958fcf209aff65", func := "loop.example/sumschool/laws.FnWrongRow", spec := "fnWrongRow", unfollowed := true, recurses := true, apart := false }
def FnWrongRowSaid : Prop := fnWrongRowRow.holds Try.pinned (OpenSpec.ofChange fnWrongRowSpec)

/-- ITS FALSE NEIGHBOUR: 'it returns false'. Refute it at one input. -/
def fnWrongRowWrong : ChangeSpec := { name := "fnWrongRow", fn := fun _ => fun
  | [d] => { results := [.lit (.bool false)], args := [d] }
  | _ => none }
def FnWrongRowWrongFalsely : Prop := fnWrongRowRow.holds Try.pinned (OpenSpec.ofChange fnWrongRowWrong)

/-- 'laws.FnRowOf': WHATEVER THE INPUT: true; the input reads as it did. -/
def fnRowOfSpec : ChangeSpec := { name := "fnRowOf", fn := fun _ => fun
  | [d] => { results := [.lit (.bool true)], args := [d] }
  | _ => none }
def fnRowOfRow : OpenClaim := { program := "ytcmpbdmpdodbfaa", sum := "dbd17bdd0897a696d704c2f4c75dcc2028c7d26e791108ad7b958fcf209aff65", func := "loop.example/sumschool/laws.FnRowOf", spec := "fnRowOf", unfollowed := true, recurses := true, apart := false }
def FnRowOfSaid : Prop := fnRowOfRow.holds Try.pinned (OpenSpec.ofChange fnRowOfSpec)

/-- ITS FALSE NEIGHBOUR: 'it returns false'. Refute it at one input. -/
def fnRowOfWrong : ChangeSpec := { name := "fnRowOf", fn := fun _ => fun
  | [d] => { results := [.lit (.bool false)], args := [d] }
  | _ => none }
def FnRowOfWrongFalsely : Prop := fnRowOfRow.holds Try.pinned (OpenSpec.ofChange fnRowOfWrong)

/-- 'laws.FnWrongColumn': WHATEVER THE INPUT: true; the input reads as it did. -/
def fnWrongColumnSpec : ChangeSpec := { name := "fnWrongColumn", fn := fun _ => fun
  | [d] => { results := [.lit (.bool true)], args := [d] }
  | _ => none }
def fnWrongColumnRow : OpenClaim := { program := "ytcmpbdmpdodbfaa", sum := "dbd17bdd0897a696d704c2f4c75dcc2028c7d26e791108ad7b958fcf209aff65", func := "loop.example/sumschool/laws.FnWrongColumn", spec := "fnWrongColumn", unfollowed := true, recurses := true, apart := false }
def FnWrongColumnSaid : Prop := fnWrongColumnRow.holds Try.pinned (OpenSpec.ofChange fnWrongColumnSpec)

/-- ITS FALSE NEIGHBOUR: 'it returns false'. Refute it at one input. -/
def fnWrongColumnWrong : ChangeSpec := { name := "fnWrongColumn", fn := fun _ => fun
  | [d] => { results := [.lit (.bool false)], args := [d] }
  | _ => none }
def FnWrongColumnWrongFalsely : Prop := fnWrongColumnRow.holds Try.pinned (OpenSpec.ofChange fnWrongColumnWrong)

/-- 'laws.FnCarriesIn': WHATEVER THE INPUT: true; the input reads as it did. -/
def fnCarriesInSpec : ChangeSpec := { name := "fnCarriesIn", fn := fun _ => fun
  | [d] => { results := [.lit (.bool true)], args := [d] }
  | _ => none }
def fnCarriesInRow : OpenClaim := { program := "ytcmpbdmpdodbfaa", sum := "dbd17bdd0897a696d704c2f4c75dcc2028c7d26e791108ad7b958fcf209aff65", func := "loop.example/sumschool/laws.FnCarriesIn", spec := "fnCarriesIn", unfollowed := true, recurses := true, apart := false }
def FnCarriesInSaid : Prop := fnCarriesInRow.holds Try.pinned (OpenSpec.ofChange fnCarriesInSpec)

/-- ITS FALSE NEIGHBOUR: 'it returns false'. Refute it at one input. -/
def fnCarriesInWrong : ChangeSpec := { name := "fnCarriesIn", fn := fun _ => fun
  | [d] => { results := [.lit (.bool false)], args := [d] }
  | _ => none }
def FnCarriesInWrongFalsely : Prop := fnCarriesInRow.holds Try.pinned (OpenSpec.ofChange fnCarriesInWrong)

/-- 'laws.FnBorrowsIn': WHATEVER THE INPUT: true; the input reads as it did. -/
def fnBorrowsInSpec : ChangeSpec := { name := "fnBorrowsIn", fn := fun _ => fun
  | [d] => { results := [.lit (.bool true)], args := [d] }
  | _ => none }
def fnBorrowsInRow : OpenClaim := { program := "ytcmpbdmpdodbfaa", sum := "dbd17bdd0897a696d704c2f4c75dcc2028c7d26e791108ad7b958fcf209aff65", func := "loop.example/sumschool/laws.FnBorrowsIn", spec := "fnBorrowsIn", unfollowed := true, recurses := true, apart := false }
def FnBorrowsInSaid : Prop := fnBorrowsInRow.holds Try.pinned (OpenSpec.ofChange fnBorrowsInSpec)

/-- ITS FALSE NEIGHBOUR: 'it returns false'. Refute it at one input. -/
def fnBorrowsInWrong : ChangeSpec := { name := "fnBorrowsIn", fn := fun _ => fun
  | [d] => { results := [.lit (.bool false)], args := [d] }
  | _ => none }
def FnBorrowsInWrongFalsely : Prop := fnBorrowsInRow.holds Try.pinned (OpenSpec.ofChange fnBorrowsInWrong)

/- THE SECOND FORM. 'bulk': how many values and letters a reading holds, each counted each time it is reached (what is shared counts as often as it is met; a slice's spare places count too). A statement '..UptoSaid' is the law's where the arguments, and the package variables that the reading takes, are together of bulk at most 1048576: NARROWER than '..Said'. Prove '..Said' where nothing that the law and all that it calls make is longer than what came in: it says more and counts as full. Else prove '..UptoSaid'. A law counts once. -/
mutual
def uptoBulk {H : Type} : DataW H → Nat
  | .lit (.string bytes) => bytes.length + 1
  | .lit _ => 1
  | .nil => 1
  | .ptr d => uptoBulk d + 1
  | .slice elems spare => uptoBulkAll elems + uptoBulkAll spare + 1
  | .agg parts => uptoBulkAll parts + 1
  | .iface _ d => uptoBulk d + 1
  | .map entries => uptoBulkEntries entries + 1
  | .held _ => 1
def uptoBulkAll {H : Type} : List (DataW H) → Nat
  | [] => 0
  | d :: r => uptoBulk d + uptoBulkAll r
def uptoBulkEntries {H : Type} : List (Lit × DataW H) → Nat
  | [] => 0
  | x :: r => uptoBulkEntry x + uptoBulkEntries r
def uptoBulkEntry {H : Type} : Lit × DataW H → Nat
  | (.string bytes, d) => bytes.length + uptoBulk d + 1
  | (_, d) => uptoBulk d + 1
 end
def uptoSmall : (H : Type) → List (DataW H) → Bool := fun _ ds => decide (uptoBulkAll ds ≤ 1048576)
def OpenSpec.upto (s : _root_.Go.ChangeSpec) : _root_.Go.OpenSpec := { _root_.Go.OpenSpec.ofChange s with cond := some uptoSmall }

/-- 'laws.FnWrongRow', WHERE WHAT IT READS IS OF BULK AT MOST 1048576: true; the input reads as it did. -/
def fnWrongRowUptoRow : OpenClaim := { program := "ytcmpbdmpdodbfaa", sum := "dbd17bdd0897a696d704c2f4c75dcc2028c7d26e791108ad7b958fcf209aff65", func := "loop.example/sumschool/laws.FnWrongRow", spec := "fnWrongRow", unfollowed := true, recurses := true, apart := false, narrowed := true }
def FnWrongRowUptoSaid : Prop := fnWrongRowUptoRow.holds Try.pinned (OpenSpec.upto fnWrongRowSpec)

/-- 'laws.FnRowOf', WHERE WHAT IT READS IS OF BULK AT MOST 1048576: true; the input reads as it did. -/
def fnRowOfUptoRow : OpenClaim := { program := "ytcmpbdmpdodbfaa", sum := "dbd17bdd0897a696d704c2f4c75dcc2028c7d26e791108ad7b958fcf209aff65", func := "loop.example/sumschool/laws.FnRowOf", spec := "fnRowOf", unfollowed := true, recurses := true, apart := false, narrowed := true }
def FnRowOfUptoSaid : Prop := fnRowOfUptoRow.holds Try.pinned (OpenSpec.upto fnRowOfSpec)

/-- 'laws.FnWrongColumn', WHERE WHAT IT READS IS OF BULK AT MOST 1048576: true; the input reads as it did. -/
def fnWrongColumnUptoRow : OpenClaim := { program := "ytcmpbdmpdodbfaa", sum := "dbd17bdd0897a696d704c2f4c75dcc2028c7d26e791108ad7b958fcf209aff65", func := "loop.example/sumschool/laws.FnWrongColumn", spec := "fnWrongColumn", unfollowed := true, recurses := true, apart := false, narrowed := true }
def FnWrongColumnUptoSaid : Prop := fnWrongColumnUptoRow.holds Try.pinned (OpenSpec.upto fnWrongColumnSpec)

/-- 'laws.FnCarriesIn', WHERE WHAT IT READS IS OF BULK AT MOST 1048576: true; the input reads as it did. -/
def fnCarriesInUptoRow : OpenClaim := { program := "ytcmpbdmpdodbfaa", sum := "dbd17bdd0897a696d704c2f4c75dcc2028c7d26e791108ad7b958fcf209aff65", func := "loop.example/sumschool/laws.FnCarriesIn", spec := "fnCarriesIn", unfollowed := true, recurses := true, apart := false, narrowed := true }
def FnCarriesInUptoSaid : Prop := fnCarriesInUptoRow.holds Try.pinned (OpenSpec.upto fnCarriesInSpec)

/-- 'laws.FnBorrowsIn', WHERE WHAT IT READS IS OF BULK AT MOST 1048576: true; the input reads as it did. -/
def fnBorrowsInUptoRow : OpenClaim := { program := "ytcmpbdmpdodbfaa", sum := "dbd17bdd0897a696d704c2f4c75dcc2028c7d26e791108ad7b958fcf209aff65", func := "loop.example/sumschool/laws.FnBorrowsIn", spec := "fnBorrowsIn", unfollowed := true, recurses := true, apart := false, narrowed := true }
def FnBorrowsInUptoSaid : Prop := fnBorrowsInUptoRow.holds Try.pinned (OpenSpec.upto fnBorrowsInSpec)

end Rows
end Go.Proofs.Ytcmpbdmpdodbfaa
