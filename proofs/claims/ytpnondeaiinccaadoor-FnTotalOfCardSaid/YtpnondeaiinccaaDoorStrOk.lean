/- A text and a truth, as two results. -/
import Derived.Test.YtpnondeaiinccaaDoorNum
namespace Go.Proofs.YtpnondeaiinccaaDoor
open Go.RowKit
/-- a text and a truth: none is the empty text and false -/
def strOk (o : Option ByteArray) : Ending := match o with
  | none => .returned (.tuple #[.string ⟨#[]⟩, .bool false])
  | some s => .returned (.tuple #[.string s, .bool true])
theorem strOk_none {o : Option ByteArray} (h : o = none) : Ending.returned (.tuple #[.string ⟨#[]⟩, .bool false]) = strOk o := by rw [h]; rfl
theorem strOk_some {o : Option ByteArray} {s t : ByteArray} (h : o = some t) (e : s = t) : Ending.returned (.tuple #[.string s, .bool true]) = strOk o := by rw [h, e]; rfl
end Go.Proofs.YtpnondeaiinccaaDoor
