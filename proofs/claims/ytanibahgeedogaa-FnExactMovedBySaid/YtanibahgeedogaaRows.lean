/-
  No cell of these rows narrows 'for every input' (looked for: loops, veiled, ifaces, maps, wideKeys, modest, calm, conditions, laid).
  DERIVED. THE GIVEN ROWS OF THIS SEAT. 7 by the template 'for every input the law returns true; each argument reads behind the call as it read before'; 0 by the template 'total and deterministic' (their statements: YtanibahgeedogaaTotals.lean).
  GIVEN WITH THE SEED: the statements are not yours to turn. If you find one false, say at which input.
  Laid BY PROGRAM, IN A SANDBOX (cutbox-rows.mjs): the forced cells as the released guide's own fill.sh prints them over the translation 0565896188d3199b… (all of the seat's roots in one cut). By AI agents, Wed Nov 11 2026. No macro, syntax, notation, axiom, sorry.
-/
import Derived.Test.YtanibahgeedogaaChecked
import GoSem.Claim
import GoSem.ClaimJoined
import GoSem.ClaimMapViews
import Derived.JoinedTies
import Derived.KernelRfl
namespace Go.Proofs.Ytanibahgeedogaa
/- THE CELL 'sum', in the pinned program and in every row, IS THE sha256 OF THE DUMP (.gsa) THAT YtanibahgeedogaaProg.lean LOADS. Nothing in Lean hashes anything: it is a label: what it is worth is what the hold of that sum in a sandbox is worth. -/
noncomputable def Try.pinned : Pinned := { name := "ytanibahgeedogaa", sum := "0565896188d3199b8b88afa7ce60ed1d563ae746d5212003c639843bbf51285d", checked := Try.checked }
namespace Rows
def none {H : Type} : Left H := { results := [], args := [] }

/-- 'laws.FnExactChecksOut': WHATEVER THE INPUT: true; the input reads as it did. -/
def fnExactChecksOutSpec : ChangeSpec := { name := "fnExactChecksOut", fn := fun _ => fun
  | [d1, d2, d3] => { results := [.lit (.bool true)], args := [d1, d2, d3] }
  | _ => none }
def fnExactChecksOutRow : OpenClaim := { program := "ytanibahgeedogaa", sum := "0565896188d3199b8b88afa7ce60ed1d563ae746d5212003c639843bbf51285d", func := "loop.example/sumschool/laws.FnExactChecksOut", spec := "fnExactChecksOut", recurses := true, apart := false }
def FnExactChecksOutSaid : Prop := fnExactChecksOutRow.holds Try.pinned (OpenSpec.ofChange fnExactChecksOutSpec)

/-- ITS FALSE NEIGHBOUR: 'it returns false'. Refute it at one input. -/
def fnExactChecksOutWrong : ChangeSpec := { name := "fnExactChecksOut", fn := fun _ => fun
  | [d1, d2, d3] => { results := [.lit (.bool false)], args := [d1, d2, d3] }
  | _ => none }
def FnExactChecksOutWrongFalsely : Prop := fnExactChecksOutRow.holds Try.pinned (OpenSpec.ofChange fnExactChecksOutWrong)

/-- 'laws.FnExactBorrowsIn': WHATEVER THE INPUT: true; the input reads as it did. -/
def fnExactBorrowsInSpec : ChangeSpec := { name := "fnExactBorrowsIn", fn := fun _ => fun
  | [d] => { results := [.lit (.bool true)], args := [d] }
  | _ => none }
def fnExactBorrowsInRow : OpenClaim := { program := "ytanibahgeedogaa", sum := "0565896188d3199b8b88afa7ce60ed1d563ae746d5212003c639843bbf51285d", func := "loop.example/sumschool/laws.FnExactBorrowsIn", spec := "fnExactBorrowsIn", unfollowed := true, recurses := true, apart := false }
def FnExactBorrowsInSaid : Prop := fnExactBorrowsInRow.holds Try.pinned (OpenSpec.ofChange fnExactBorrowsInSpec)

/-- ITS FALSE NEIGHBOUR: 'it returns false'. Refute it at one input. -/
def fnExactBorrowsInWrong : ChangeSpec := { name := "fnExactBorrowsIn", fn := fun _ => fun
  | [d] => { results := [.lit (.bool false)], args := [d] }
  | _ => none }
def FnExactBorrowsInWrongFalsely : Prop := fnExactBorrowsInRow.holds Try.pinned (OpenSpec.ofChange fnExactBorrowsInWrong)

/-- 'laws.FnExactRowOf': WHATEVER THE INPUT: true; the input reads as it did. -/
def fnExactRowOfSpec : ChangeSpec := { name := "fnExactRowOf", fn := fun _ => fun
  | [d1, d2] => { results := [.lit (.bool true)], args := [d1, d2] }
  | _ => none }
def fnExactRowOfRow : OpenClaim := { program := "ytanibahgeedogaa", sum := "0565896188d3199b8b88afa7ce60ed1d563ae746d5212003c639843bbf51285d", func := "loop.example/sumschool/laws.FnExactRowOf", spec := "fnExactRowOf", apart := false }
def FnExactRowOfSaid : Prop := fnExactRowOfRow.holds Try.pinned (OpenSpec.ofChange fnExactRowOfSpec)

/-- ITS FALSE NEIGHBOUR: 'it returns false'. Refute it at one input. -/
def fnExactRowOfWrong : ChangeSpec := { name := "fnExactRowOf", fn := fun _ => fun
  | [d1, d2] => { results := [.lit (.bool false)], args := [d1, d2] }
  | _ => none }
def FnExactRowOfWrongFalsely : Prop := fnExactRowOfRow.holds Try.pinned (OpenSpec.ofChange fnExactRowOfWrong)

/-- 'laws.FnExactAddedOf': WHATEVER THE INPUT: true; the input reads as it did. -/
def fnExactAddedOfSpec : ChangeSpec := { name := "fnExactAddedOf", fn := fun _ => fun
  | [d1, d2] => { results := [.lit (.bool true)], args := [d1, d2] }
  | _ => none }
def fnExactAddedOfRow : OpenClaim := { program := "ytanibahgeedogaa", sum := "0565896188d3199b8b88afa7ce60ed1d563ae746d5212003c639843bbf51285d", func := "loop.example/sumschool/laws.FnExactAddedOf", spec := "fnExactAddedOf", apart := false }
def FnExactAddedOfSaid : Prop := fnExactAddedOfRow.holds Try.pinned (OpenSpec.ofChange fnExactAddedOfSpec)

/-- ITS FALSE NEIGHBOUR: 'it returns false'. Refute it at one input. -/
def fnExactAddedOfWrong : ChangeSpec := { name := "fnExactAddedOf", fn := fun _ => fun
  | [d1, d2] => { results := [.lit (.bool false)], args := [d1, d2] }
  | _ => none }
def FnExactAddedOfWrongFalsely : Prop := fnExactAddedOfRow.holds Try.pinned (OpenSpec.ofChange fnExactAddedOfWrong)

/-- 'laws.FnExactAddedBack': WHATEVER THE INPUT: true; the input reads as it did. -/
def fnExactAddedBackSpec : ChangeSpec := { name := "fnExactAddedBack", fn := fun _ => fun
  | [d] => { results := [.lit (.bool true)], args := [d] }
  | _ => none }
def fnExactAddedBackRow : OpenClaim := { program := "ytanibahgeedogaa", sum := "0565896188d3199b8b88afa7ce60ed1d563ae746d5212003c639843bbf51285d", func := "loop.example/sumschool/laws.FnExactAddedBack", spec := "fnExactAddedBack", unfollowed := true, recurses := true, apart := false }
def FnExactAddedBackSaid : Prop := fnExactAddedBackRow.holds Try.pinned (OpenSpec.ofChange fnExactAddedBackSpec)

/-- ITS FALSE NEIGHBOUR: 'it returns false'. Refute it at one input. -/
def fnExactAddedBackWrong : ChangeSpec := { name := "fnExactAddedBack", fn := fun _ => fun
  | [d] => { results := [.lit (.bool false)], args := [d] }
  | _ => none }
def FnExactAddedBackWrongFalsely : Prop := fnExactAddedBackRow.holds Try.pinned (OpenSpec.ofChange fnExactAddedBackWrong)

/-- 'laws.FnExactTakenOf': WHATEVER THE INPUT: true; the input reads as it did. -/
def fnExactTakenOfSpec : ChangeSpec := { name := "fnExactTakenOf", fn := fun _ => fun
  | [d1, d2] => { results := [.lit (.bool true)], args := [d1, d2] }
  | _ => none }
def fnExactTakenOfRow : OpenClaim := { program := "ytanibahgeedogaa", sum := "0565896188d3199b8b88afa7ce60ed1d563ae746d5212003c639843bbf51285d", func := "loop.example/sumschool/laws.FnExactTakenOf", spec := "fnExactTakenOf", inPlace := ["internal/bytealg.abigen_runtime_cmpstring"], apart := false }
def FnExactTakenOfSaid : Prop := fnExactTakenOfRow.holds Try.pinned (OpenSpec.ofChange fnExactTakenOfSpec)

/-- ITS FALSE NEIGHBOUR: 'it returns false'. Refute it at one input. -/
def fnExactTakenOfWrong : ChangeSpec := { name := "fnExactTakenOf", fn := fun _ => fun
  | [d1, d2] => { results := [.lit (.bool false)], args := [d1, d2] }
  | _ => none }
def FnExactTakenOfWrongFalsely : Prop := fnExactTakenOfRow.holds Try.pinned (OpenSpec.ofChange fnExactTakenOfWrong)

/-- 'laws.FnExactMovedBy': WHATEVER THE INPUT: true; the input reads as it did. -/
def fnExactMovedBySpec : ChangeSpec := { name := "fnExactMovedBy", fn := fun _ => fun
  | [d1, d2] => { results := [.lit (.bool true)], args := [d1, d2] }
  | _ => none }
def fnExactMovedByRow : OpenClaim := { program := "ytanibahgeedogaa", sum := "0565896188d3199b8b88afa7ce60ed1d563ae746d5212003c639843bbf51285d", func := "loop.example/sumschool/laws.FnExactMovedBy", spec := "fnExactMovedBy", inPlace := ["internal/abi.NoEscape", "internal/bytealg.MakeNoZero"], apart := false }
def FnExactMovedBySaid : Prop := fnExactMovedByRow.holds Try.pinned (OpenSpec.ofChange fnExactMovedBySpec)

/-- ITS FALSE NEIGHBOUR: 'it returns false'. Refute it at one input. -/
def fnExactMovedByWrong : ChangeSpec := { name := "fnExactMovedBy", fn := fun _ => fun
  | [d1, d2] => { results := [.lit (.bool false)], args := [d1, d2] }
  | _ => none }
def FnExactMovedByWrongFalsely : Prop := fnExactMovedByRow.holds Try.pinned (OpenSpec.ofChange fnExactMovedByWrong)

/- THE SECOND FORM. 'bulk': how many values and letters a reading holds, each counted each time it is reached (what is shared counts as often as it is met; a slice's spare places count too). A statement '..UptoSaid' is the law's where the arguments, and the package variables that the reading takes, are together of bulk at most 1048576: NARROWER than '..Said'. Prove '..Said' where nothing that the law and all that it calls make is longer than what came in: it says more and counts as full. Else prove '..UptoSaid'. A law counts once. -/
mutual
def uptoBulk {H : Type} : DataW H → Nat
  | .lit (.string bytes) => bytes.length + 1
  | .lit _ => 1
  | .nil => 1
  | .ptr d => uptoBulk d + 1
  | .slice elems spare => uptoBulkAll elems + uptoBulkAll spare + 1
  | .agg parts => uptoBulkAll parts + 1
  | .iface _ d => uptoBulk d + 1
  | .map entries => uptoBulkEntries entries + 1
  | .held _ => 1
def uptoBulkAll {H : Type} : List (DataW H) → Nat
  | [] => 0
  | d :: r => uptoBulk d + uptoBulkAll r
def uptoBulkEntries {H : Type} : List (Lit × DataW H) → Nat
  | [] => 0
  | x :: r => uptoBulkEntry x + uptoBulkEntries r
def uptoBulkEntry {H : Type} : Lit × DataW H → Nat
  | (.string bytes, d) => bytes.length + uptoBulk d + 1
  | (_, d) => uptoBulk d + 1
 end
def uptoSmall : (H : Type) → List (DataW H) → Bool := fun _ ds => decide (uptoBulkAll ds ≤ 1048576)
def OpenSpec.upto (s : _root_.Go.ChangeSpec) : _root_.Go.OpenSpec := { _root_.Go.OpenSpec.ofChange s with cond := some uptoSmall }

/-- 'laws.FnExactChecksOut', WHERE WHAT IT READS IS OF BULK AT MOST 1048576: true; the input reads as it did. -/
def fnExactChecksOutUptoRow : OpenClaim := { program := "ytanibahgeedogaa", sum := "0565896188d3199b8b88afa7ce60ed1d563ae746d5212003c639843bbf51285d", func := "loop.example/sumschool/laws.FnExactChecksOut", spec := "fnExactChecksOut", recurses := true, apart := false, narrowed := true }
def FnExactChecksOutUptoSaid : Prop := fnExactChecksOutUptoRow.holds Try.pinned (OpenSpec.upto fnExactChecksOutSpec)

/-- 'laws.FnExactBorrowsIn', WHERE WHAT IT READS IS OF BULK AT MOST 1048576: true; the input reads as it did. -/
def fnExactBorrowsInUptoRow : OpenClaim := { program := "ytanibahgeedogaa", sum := "0565896188d3199b8b88afa7ce60ed1d563ae746d5212003c639843bbf51285d", func := "loop.example/sumschool/laws.FnExactBorrowsIn", spec := "fnExactBorrowsIn", unfollowed := true, recurses := true, apart := false, narrowed := true }
def FnExactBorrowsInUptoSaid : Prop := fnExactBorrowsInUptoRow.holds Try.pinned (OpenSpec.upto fnExactBorrowsInSpec)

/-- 'laws.FnExactRowOf', WHERE WHAT IT READS IS OF BULK AT MOST 1048576: true; the input reads as it did. -/
def fnExactRowOfUptoRow : OpenClaim := { program := "ytanibahgeedogaa", sum := "0565896188d3199b8b88afa7ce60ed1d563ae746d5212003c639843bbf51285d", func := "loop.example/sumschool/laws.FnExactRowOf", spec := "fnExactRowOf", apart := false, narrowed := true }
def FnExactRowOfUptoSaid : Prop := fnExactRowOfUptoRow.holds Try.pinned (OpenSpec.upto fnExactRowOfSpec)

/-- 'laws.FnExactAddedOf', WHERE WHAT IT READS IS OF BULK AT MOST 1048576: true; the input reads as it did. -/
def fnExactAddedOfUptoRow : OpenClaim := { program := "ytanibahgeedogaa", sum := "0565896188d3199b8b88afa7ce60ed1d563ae746d5212003c639843bbf51285d", func := "loop.example/sumschool/laws.FnExactAddedOf", spec := "fnExactAddedOf", apart := false, narrowed := true }
def FnExactAddedOfUptoSaid : Prop := fnExactAddedOfUptoRow.holds Try.pinned (OpenSpec.upto fnExactAddedOfSpec)

/-- 'laws.FnExactAddedBack', WHERE WHAT IT READS IS OF BULK AT MOST 1048576: true; the input reads as it did. -/
def fnExactAddedBackUptoRow : OpenClaim := { program := "ytanibahgeedogaa", sum := "0565896188d3199b8b88afa7ce60ed1d563ae746d5212003c639843bbf51285d", func := "loop.example/sumschool/laws.FnExactAddedBack", spec := "fnExactAddedBack", unfollowed := true, recurses := true, apart := false, narrowed := true }
def FnExactAddedBackUptoSaid : Prop := fnExactAddedBackUptoRow.holds Try.pinned (OpenSpec.upto fnExactAddedBackSpec)

/-- 'laws.FnExactTakenOf', WHERE WHAT IT READS IS OF BULK AT MOST 1048576: true; the input reads as it did. -/
def fnExactTakenOfUptoRow : OpenClaim := { program := "ytanibahgeedogaa", sum := "0565896188d3199b8b88afa7ce60ed1d563ae746d5212003c639843bbf51285d", func := "loop.example/sumschool/laws.FnExactTakenOf", spec := "fnExactTakenOf", inPlace := ["internal/bytealg.abigen_runtime_cmpstring"], apart := false, narrowed := true }
def FnExactTakenOfUptoSaid : Prop := fnExactTakenOfUptoRow.holds Try.pinned (OpenSpec.upto fnExactTakenOfSpec)

/-- 'laws.FnExactMovedBy', WHERE WHAT IT READS IS OF BULK AT MOST 1048576: true; the input reads as it did. -/
def fnExactMovedByUptoRow : OpenClaim := { program := "ytanibahgeedogaa", sum := "0565896188d3199b8b88afa7ce60ed1d563ae746d5212003c639843bbf51285d", func := "loop.example/sumschool/laws.FnExactMovedBy", spec := "fnExactMovedBy", inPlace := ["internal/abi.NoEscape", "internal/bytealg.MakeNoZero"], apart := false, narrowed := true }
def FnExactMovedByUptoSaid : Prop := fnExactMovedByUptoRow.holds Try.pinned (OpenSpec.upto fnExactMovedBySpec)

end Rows
end Go.Proofs.Ytanibahgeedogaa
