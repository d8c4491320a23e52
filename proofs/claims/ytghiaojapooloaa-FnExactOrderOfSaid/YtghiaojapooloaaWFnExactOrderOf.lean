/- The walk of laws.FnExactOrderOf: the program's and the reference's answers are the same; nothing that was there is changed. -/
import Derived.Test.YtghiaojapooloaaRows
import Derived.Test.YtghiaojapooloaaOrder2
import Derived.WalkKit
import Derived.OpenShut
namespace Go.Proofs.Ytghiaojapooloaa.lawFnExactOrderOf
open Go.RowKit Go.Proofs.Ytghiaojapooloaa
set_option maxHeartbeats 800000 in
theorem walk (s0 : ByteArray) (s1 : ByteArray) (w : World) (w0 : s0.size ≤ maxLen) (w1 : s1.size ≤ maxLen) :
    Calls Try.prog 7 #[.string s0, .string s1] w fun e w' => e = .returned (.bool true) ∧ Below w.heap.size w w' := by
  by_cases c0 : 1048576 < s0.size
  · go_enter Try.func7, Try.ntmps7
    go_wp2_with fail
    go_ret
    exact ⟨rfl, Below.refl _ _⟩
  · have d0 : s0.size ≤ 1048576 := by omega
    by_cases c1 : 1048576 < s1.size
    · go_enter Try.func7, Try.ntmps7
      go_wp2_with fail
      go_ret
      exact ⟨rfl, Below.refl _ _⟩
    · have d1 : s1.size ≤ 1048576 := by omega
      go_enter Try.func7, Try.ntmps7
      go_wp2_with (first | (go_at_call 21; refine (s_orderOf _ _ _ w0 w1).mono ?_; rintro e w2 ⟨rfl, n, rfl⟩) | (go_at_call 22; refine (i_orderOf _ _ _ w0 w1).mono ?_; rintro e w' ⟨rfl, rfl⟩))
      go_ret
      exact ⟨rfl, ⟨rfl, rfl, rfl, Nat.le_refl _, fun _ _ => rfl⟩⟩
end Go.Proofs.Ytghiaojapooloaa.lawFnExactOrderOf
