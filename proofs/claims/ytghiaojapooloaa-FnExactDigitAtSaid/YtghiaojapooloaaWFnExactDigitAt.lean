/- The walk of laws.FnExactDigitAt: the program's and the reference's answers are the same; nothing that was there is changed. -/
import Derived.Test.YtghiaojapooloaaRows
import Derived.Test.YtghiaojapooloaaNum
import Derived.WalkKit
import Derived.OpenShut
namespace Go.Proofs.Ytghiaojapooloaa.lawFnExactDigitAt
open Go.RowKit Go.Proofs.Ytghiaojapooloaa
set_option maxHeartbeats 800000 in
theorem walk (s0 : ByteArray) (a1 : Int) (w : World) (w0 : s0.size ≤ maxLen) (w1 : (Lit.int .i64 a1).wf = true) :
    Calls Try.prog 5 #[.string s0, .int .i64 a1] w fun e w' => e = .returned (.bool true) ∧ Below w.heap.size w w' := by
  have b1 := bounds_i64 w1
  by_cases c0 : 1048576 < s0.size
  · go_enter Try.func5, Try.ntmps5
    go_wp2_with fail
    go_ret
    exact ⟨rfl, Below.refl _ _⟩
  · have d0 : s0.size ≤ 1048576 := by omega
    go_enter Try.func5, Try.ntmps5
    go_wp2_with (first | (go_at_call 17; refine (s_digitAt _ _ _ w0 b1.2).mono ?_; rintro e w' ⟨rfl, rfl⟩) | (go_at_call 18; refine (i_digitAt _ _ _ w0 b1.2).mono ?_; rintro e w' ⟨rfl, rfl⟩))
    go_ret
    exact ⟨rfl, Below.refl _ _⟩
end Go.Proofs.Ytghiaojapooloaa.lawFnExactDigitAt
