/- The walk of laws.FnExactTakenOf: the program's and the reference's answers are the same, each answer is one of its own; nothing that was there is changed. -/
import Derived.Test.YtanibahgeedogaaRows
import Derived.Test.YtanibahgeedogaaMade4
import Derived.Test.YtanibahgeedogaaCopy
import Derived.OpenShut
namespace Go.Proofs.Ytanibahgeedogaa.lawFnExactTakenOf
open Go.RowKit Go.Proofs.Ytanibahgeedogaa
set_option maxHeartbeats 3200000 in
theorem walk (s0 : ByteArray) (s1 : ByteArray) (w : World) (q0 : s0.size ≤ maxLen) (q1 : s1.size ≤ maxLen) :
    Calls Try.prog 8 #[.string s0, .string s1] w fun e w' => e = .returned (.bool true) ∧ Below w.heap.size w w' := by
  by_cases c0 : 1048576 < s0.size
  · go_enter Try.func8, Try.ntmps8
    go_wp2_with fail
    go_ret
    exact ⟨rfl, Below.refl _ _⟩
  · have d0 : s0.size ≤ 1048576 := by omega
    by_cases c1 : 1048576 < s1.size
    · go_enter Try.func8, Try.ntmps8
      go_wp2_with fail
      go_ret
      exact ⟨rfl, Below.refl _ _⟩
    · have d1 : s1.size ≤ 1048576 := by omega
      have hl : (takenL s0 s1).length ≤ 1048576 := by have := takenL_len s0 s1; omega
      obtain ⟨cs, hcs⟩ : ∃ cs, cs = takenL s0 s1 := ⟨_, rfl⟩
      have HCS := Lib.hid hcs
      rw [← hcs] at hl
      clear hcs
      go_enter Try.func8, Try.ntmps8
      go_wp2_with fail
      refine (s_takenOf _ _ _ q0 q1).mono ?_
      rintro e w1 ⟨v0, rfl, o1, b1⟩
      rw [← HCS.out] at o1
      go_wp2_with fail
      refine (i_takenOf _ _ _ q0 q1).mono ?_
      rintro e w2 ⟨v1, rfl, m2, b2⟩
      rw [← HCS.out] at m2
      go_wp2_with fail
      refine (l_eqColumnS _ _ cs _ m2.cols (OwnCols.below o1 b2).cols hl).mono ?_
      rintro e w3 ⟨rfl, b3⟩
      have m3 := m2.below b3
      have b13 := b2.trans (b3.mono b2.size)
      clear m2 b2 b3
      go_wp2_with fail
      refine (l_mark _ cs _ _ m3 hl).mono ?_
      rintro e w4 ⟨rfl, m4, b4⟩
      have b14 := b13.trans b4
      clear m3 b13 b4
      go_wp2_with fail
      refine (l_held _ _ _ _ m4 hl).mono ?_
      rintro e w5 ⟨rfl, rfl⟩
      go_wp2_with fail
      refine (i_takenOf _ _ _ q0 q1).mono ?_
      rintro e w6 ⟨v2, rfl, m6, b6⟩
      rw [← HCS.out] at m6
      have b16 := b14.trans (b6.mono b14.size)
      go_wp2_with fail
      refine (l_eqColumnS _ _ cs _ m6.cols (OwnCols.below o1 b16).cols hl).mono ?_
      rintro e w7 ⟨rfl, b7⟩
      have m7 := (m4.below b6).below b7
      have b17 := b1.trans ((b16.trans (b7.mono b16.size)).mono b1.size)
      clear m6 b6 b14 b16 m4 b7 o1
      go_wp2_with fail
      refine (l_held _ _ _ _ m7 hl).mono ?_
      rintro e w8 ⟨rfl, rfl⟩
      go_wp2_with fail
      go_ret
      exact ⟨rfl, b17⟩
end Go.Proofs.Ytanibahgeedogaa.lawFnExactTakenOf
