/- The walk of laws.FnExactMovedBy: the program's and the reference's answers are the same; nothing that was there is changed. -/
import Derived.Test.YtanibahgeedogaaMoved
import Derived.OpenShut
namespace Go.Proofs.Ytanibahgeedogaa.lawFnExactMovedBy
open Go.RowKit Go.Proofs.Ytanibahgeedogaa
set_option maxHeartbeats 800000 in
theorem walk (s0 : ByteArray) (a1 : Int) (w : World) (w0 : s0.size ≤ maxLen) (w1 : (Lit.int .i64 a1).wf = true) :
    Calls Try.prog 9 #[.string s0, .int .i64 a1] w fun e w' => e = .returned (.bool true) ∧ Below w.heap.size w w' := by
  have b1 := bounds_i64 w1
  by_cases c0 : 1048576 < s0.size
  · go_enter Try.func9, Try.ntmps9
    go_wp2_with fail
    go_ret
    exact ⟨rfl, Below.refl _ _⟩
  · have d0 : s0.size ≤ 1048576 := by omega
    have hs := fun W => s_movedBy s0 a1 W w0 b1
    have hi := fun W => i_movedBy s0 a1 W w0 b1
    obtain ⟨o, ho⟩ : ∃ o, o = movedO s0 a1 := ⟨_, rfl⟩
    rw [← ho] at hs hi
    cases o with
    | none =>
      have HS := Lib.hid hs
      have HI := Lib.hid hi
      clear hs hi ho
      go_enter Try.func9, Try.ntmps9
      go_wp2_with fail
      refine (HS.out _).mono ?_
      rintro e w1 ⟨he, hb1⟩
      obtain rfl : e = .returned (.tuple #[.string ⟨#[]⟩, .bool false]) := he
      go_wp2_with fail
      refine (HI.out _).mono ?_
      rintro e w2 ⟨he, hb2⟩
      obtain rfl : e = .returned (.tuple #[.string ⟨#[]⟩, .bool false]) := he
      go_wp2_with fail
      go_ret
      exact ⟨rfl, hb1.trans (hb2.mono hb1.size)⟩
    | some x =>
      have HS := Lib.hid hs
      have HI := Lib.hid hi
      clear hs hi ho
      go_enter Try.func9, Try.ntmps9
      go_wp2_with fail
      refine (HS.out _).mono ?_
      rintro e w1 ⟨he, hb1⟩
      obtain rfl : e = .returned (.tuple #[.string x, .bool true]) := he
      go_wp2_with fail
      refine (HI.out _).mono ?_
      rintro e w2 ⟨he, hb2⟩
      obtain rfl : e = .returned (.tuple #[.string x, .bool true]) := he
      go_wp2_with fail
      go_ret
      exact ⟨rfl, hb1.trans (hb2.mono hb1.size)⟩
end Go.Proofs.Ytanibahgeedogaa.lawFnExactMovedBy
