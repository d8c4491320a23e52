/- Walks of SumOf and DifferenceOf of the program and of the reference. -/
import Derived.Test.YtpnondeaiinccaaDoorWritten2
import Derived.Test.YtpnondeaiinccaaDoorMade4
namespace Go.Proofs.YtpnondeaiinccaaDoor
open Go.RowKit
set_option linter.unusedVariables false
def sumO (s t : ByteArray) : Option ByteArray := writtenO (addedL s t)
def diffO (s t : ByteArray) : Option ByteArray := leftO (takenL s t)
theorem le_big {n : Nat} (h : n ≤ 9) : n ≤ 1048576 := by omega
theorem i_sumOf (s t : ByteArray) (w : World) (hs : s.size ≤ maxLen) (ht : t.size ≤ maxLen) :
    Calls Tryd.prog 19 #[.string s, .string t] w fun e w' => e = .returned (.tuple #[.string (strTxt (sumO s t)), .bool (sumO s t).isSome]) ∧ Below w.heap.size w w' := by
  have HL := Lib.hid (le_big (addedL_len s t))
  go_enter Tryd.func19, Tryd.ntmps19
  go_wp2_with fail
  refine (i_addedOf _ _ _ hs ht).mono ?_
  rintro e w1 ⟨v, rfl, m1, b1⟩
  go_wp2_with fail
  refine (i_writtenOf v _ _ m1.cols HL.out).mono ?_
  rintro e w2 ⟨he, b2⟩
  rw [strOk_eq] at he
  subst he
  go_wp2_with fail
  go_ret2
  exact ⟨rfl, b1.trans (b2.mono b1.size)⟩
theorem s_sumOf (s t : ByteArray) (w : World) (hs : s.size ≤ maxLen) (ht : t.size ≤ maxLen) :
    Calls Tryd.prog 20 #[.string s, .string t] w fun e w' => e = .returned (.tuple #[.string (strTxt (sumO s t)), .bool (sumO s t).isSome]) ∧ Below w.heap.size w w' := by
  have HL := Lib.hid (le_big (addedL_len s t))
  go_enter Tryd.func20, Tryd.ntmps20
  go_wp2_with fail
  refine (s_addedOf _ _ _ hs ht).mono ?_
  rintro e w1 ⟨v, rfl, m1, b1⟩
  go_wp2_with fail
  refine (s_writtenOf v _ _ (OwnCols.cols m1) HL.out).mono ?_
  rintro e w2 ⟨he, b2⟩
  rw [strOk_eq] at he
  subst he
  go_wp2_with fail
  go_ret2
  exact ⟨rfl, b1.trans (b2.mono b1.size)⟩
theorem i_differenceOf (s t : ByteArray) (w : World) (hs : s.size ≤ maxLen) (ht : t.size ≤ maxLen) :
    Calls Tryd.prog 43 #[.string s, .string t] w fun e w' => e = .returned (.tuple #[.string (strTxt (diffO s t)), .bool (diffO s t).isSome]) ∧ Below w.heap.size w w' := by
  have HL := Lib.hid (le_big (takenL_len s t))
  go_enter Tryd.func43, Tryd.ntmps43
  go_wp2_with fail
  refine (i_takenOf _ _ _ hs ht).mono ?_
  rintro e w1 ⟨v, rfl, m1, b1⟩
  go_wp2_with fail
  refine (i_leftOf v _ _ m1.cols HL.out).mono ?_
  rintro e w2 ⟨he, b2⟩
  rw [strOk_eq] at he
  subst he
  go_wp2_with fail
  go_ret2
  exact ⟨rfl, b1.trans (b2.mono b1.size)⟩
theorem s_differenceOf (s t : ByteArray) (w : World) (hs : s.size ≤ maxLen) (ht : t.size ≤ maxLen) :
    Calls Tryd.prog 44 #[.string s, .string t] w fun e w' => e = .returned (.tuple #[.string (strTxt (diffO s t)), .bool (diffO s t).isSome]) ∧ Below w.heap.size w w' := by
  have HL := Lib.hid (le_big (takenL_len s t))
  go_enter Tryd.func44, Tryd.ntmps44
  go_wp2_with fail
  refine (s_takenOf _ _ _ hs ht).mono ?_
  rintro e w1 ⟨v, rfl, m1, b1⟩
  go_wp2_with fail
  refine (s_leftOf v _ _ (OwnCols.cols m1) HL.out).mono ?_
  rintro e w2 ⟨he, b2⟩
  rw [strOk_eq] at he
  subst he
  go_wp2_with fail
  go_ret2
  exact ⟨rfl, b1.trans (b2.mono b1.size)⟩
end Go.Proofs.YtpnondeaiinccaaDoor
