/- Walk of sameColumns at two equal transcripts; the drawings of a row. -/
import Derived.Test.YthddidjdgbdlbaaDoorOpen
import Derived.Test.YthddidjdgbdlbaaDoorMut
import Derived.Test.YthddidjdgbdlbaaDoorLaw1
namespace Go.Proofs.YthddidjdgbdlbaaDoor
open Go.RowKit
set_option linter.unusedVariables false
set_option maxRecDepth 100000
def RowPost (w : World) (e : Ending) (w' : World) : Prop := ∃ (t : ByteArray) (d : Int), t.size ≤ 11 ∧ -10 ≤ d ∧ d ≤ 20 ∧ e = .returned (.tuple #[.string t, .int .i64 d]) ∧ Below w.heap.size w w'
end Go.Proofs.YthddidjdgbdlbaaDoor
