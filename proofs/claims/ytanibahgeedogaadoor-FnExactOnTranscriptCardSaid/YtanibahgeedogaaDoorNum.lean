/- Walks of the functions on digits: digit, DigitAt, DigitSum of the program and of the reference. -/
import Derived.Test.YtanibahgeedogaaDoorNumOk
import Derived.Test.YtanibahgeedogaaDoorPlain2
namespace Go.Proofs.YtanibahgeedogaaDoor
open Go.RowKit

theorem ne_true {b : Bool} (h : ¬ b = true) : b = false := by simpa using h
theorem ret_pair {a b c d : Value} (h : a = c) (g : b = d) : Ending.returned (.tuple #[a, b]) = .returned (.tuple #[c, d]) := by rw [h, g]



end Go.Proofs.YtanibahgeedogaaDoor
