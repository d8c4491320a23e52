/- The walk of laws.FnExactValueOf: the program's and the reference's answers are the same; nothing that was there is changed. -/
import Derived.Test.YtanibahgeedogaaDoorRows
import Derived.Test.YtanibahgeedogaaDoorValue
import Derived.WalkKit
import Derived.OpenShut
namespace Go.Proofs.YtanibahgeedogaaDoor.lawFnExactValueOf
open Go.RowKit Go.Proofs.YtanibahgeedogaaDoor
set_option maxHeartbeats 800000 in
theorem walk (s0 : ByteArray) (w : World) (w0 : s0.size ≤ maxLen) :
    Calls Tryd.prog 4 #[.string s0] w fun e w' => e = .returned (.bool true) ∧ Below w.heap.size w w' := by
  by_cases c0 : 1048576 < s0.size
  · go_enter Tryd.func4, Tryd.ntmps4
    go_wp2_with fail
    go_ret
    exact ⟨rfl, Below.refl _ _⟩
  · have d0 : s0.size ≤ 1048576 := by omega
    go_enter Tryd.func4, Tryd.ntmps4
    go_wp2_with (first | (go_at_call 10; refine (s_valueOf _ _ w0).mono ?_; rintro e w' ⟨rfl, rfl⟩) | (go_at_call 11; refine (i_valueOf _ _ w0).mono ?_; rintro e w1 ⟨rfl, hb1⟩))
    go_ret
    exact ⟨rfl, hb1⟩
end Go.Proofs.YtanibahgeedogaaDoor.lawFnExactValueOf
