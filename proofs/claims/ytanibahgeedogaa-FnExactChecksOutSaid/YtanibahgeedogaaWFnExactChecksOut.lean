/- The walk of laws.FnExactChecksOut: the program's and the reference's answers are the same; nothing that was there is changed. -/
import Derived.Test.YtanibahgeedogaaRows
import Derived.Test.YtanibahgeedogaaChecks
import Derived.WalkKit
import Derived.OpenShut
namespace Go.Proofs.Ytanibahgeedogaa.lawFnExactChecksOut
open Go.RowKit Go.Proofs.Ytanibahgeedogaa
set_option maxHeartbeats 800000 in
theorem walk (s0 : ByteArray) (s1 : ByteArray) (s2 : ByteArray) (w : World) (w0 : s0.size ≤ maxLen) (w1 : s1.size ≤ maxLen) (w2 : s2.size ≤ maxLen) :
    Calls Try.prog 3 #[.string s0, .string s1, .string s2] w fun e w' => e = .returned (.bool true) ∧ Below w.heap.size w w' := by
  by_cases c0 : 1048576 < s0.size
  · go_enter Try.func3, Try.ntmps3
    go_wp2_with fail
    go_ret
    exact ⟨rfl, Below.refl _ _⟩
  · have d0 : s0.size ≤ 1048576 := by omega
    by_cases c1 : 1048576 < s1.size
    · go_enter Try.func3, Try.ntmps3
      go_wp2_with fail
      go_ret
      exact ⟨rfl, Below.refl _ _⟩
    · have d1 : s1.size ≤ 1048576 := by omega
      by_cases c2 : 1048576 < s2.size
      · go_enter Try.func3, Try.ntmps3
        go_wp2_with fail
        go_ret
        exact ⟨rfl, Below.refl _ _⟩
      · have d2 : s2.size ≤ 1048576 := by omega
        go_enter Try.func3, Try.ntmps3
        go_wp2_with (first | (go_at_call 10; refine (s_checksOut _ _ _ _ w0 w1 w2).mono ?_; rintro e w3 ⟨rfl, hb3⟩) | (go_at_call 11; refine (i_checksOut _ _ _ _ w0 w1 w2).mono ?_; rintro e w' ⟨rfl, rfl⟩))
        go_ret
        exact ⟨rfl, hb3⟩
end Go.Proofs.Ytanibahgeedogaa.lawFnExactChecksOut
