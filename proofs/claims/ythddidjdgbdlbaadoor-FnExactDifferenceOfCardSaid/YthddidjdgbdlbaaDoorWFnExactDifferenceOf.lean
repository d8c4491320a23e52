/- The walk of laws.FnExactDifferenceOf: the program's and the reference's answers are the same; nothing that was there is changed. -/
import Derived.Test.YthddidjdgbdlbaaDoorSum
import Derived.OpenShut
namespace Go.Proofs.YthddidjdgbdlbaaDoor.lawFnExactDifferenceOf
open Go.RowKit Go.Proofs.YthddidjdgbdlbaaDoor
set_option maxHeartbeats 800000 in
theorem walk (s0 : ByteArray) (s1 : ByteArray) (w : World) (w0 : s0.size ≤ maxLen) (q1 : s1.size ≤ maxLen) :
    Calls Tryd.prog 12 #[.string s0, .string s1] w fun e w' => e = .returned (.bool true) ∧ Below w.heap.size w w' := by
  by_cases c0 : 1048576 < s0.size
  · go_enter Tryd.func12, Tryd.ntmps12
    go_wp2_with fail
    go_ret
    exact ⟨rfl, Below.refl _ _⟩
  · have d0 : s0.size ≤ 1048576 := by omega
    by_cases c1 : 1048576 < s1.size
    · go_enter Tryd.func12, Tryd.ntmps12
      go_wp2_with fail
      go_ret
      exact ⟨rfl, Below.refl _ _⟩
    · have d1 : s1.size ≤ 1048576 := by omega
      go_enter Tryd.func12, Tryd.ntmps12
      go_wp2_with fail
      refine (s_differenceOf _ _ _ w0 q1).mono ?_
      rintro e w1 ⟨rfl, hb1⟩
      go_wp2_with fail
      refine (i_differenceOf _ _ _ w0 q1).mono ?_
      rintro e w2 ⟨rfl, hb2⟩
      go_wp2_with fail
      go_ret
      exact ⟨rfl, hb1.trans (hb2.mono hb1.size)⟩
end Go.Proofs.YthddidjdgbdlbaaDoor.lawFnExactDifferenceOf
