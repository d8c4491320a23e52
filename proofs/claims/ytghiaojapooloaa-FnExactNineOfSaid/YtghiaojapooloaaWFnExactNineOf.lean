/- The walk of laws.FnExactNineOf: the program's and the reference's answers are the same; nothing that was there is changed. -/
import Derived.Test.YtghiaojapooloaaRows
import Derived.Test.YtghiaojapooloaaNine
import Derived.WalkKit
import Derived.OpenShut
namespace Go.Proofs.Ytghiaojapooloaa.lawFnExactNineOf
open Go.RowKit Go.Proofs.Ytghiaojapooloaa
set_option maxHeartbeats 800000 in
theorem walk (s0 : ByteArray) (w : World) (w0 : s0.size ≤ maxLen) :
    Calls Try.prog 8 #[.string s0] w fun e w' => e = .returned (.bool true) ∧ Below w.heap.size w w' := by
  by_cases c0 : 1048576 < s0.size
  · go_enter Try.func8, Try.ntmps8
    go_wp2_with fail
    go_ret
    exact ⟨rfl, Below.refl _ _⟩
  · have d0 : s0.size ≤ 1048576 := by omega
    go_enter Try.func8, Try.ntmps8
    go_wp2_with (first | (go_at_call 23; refine (s_nineOf _ _ w0).mono ?_; rintro e w1 ⟨rfl, hb1⟩) | (go_at_call 24; refine (i_nineOf _ _ w0).mono ?_; rintro e w' ⟨rfl, rfl⟩))
    go_ret
    exact ⟨rfl, hb1⟩
end Go.Proofs.Ytghiaojapooloaa.lawFnExactNineOf
