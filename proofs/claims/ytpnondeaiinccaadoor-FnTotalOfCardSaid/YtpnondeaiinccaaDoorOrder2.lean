/- Walk of OrderOf of the program. -/
import Derived.Test.YtpnondeaiinccaaDoorOrder
import Derived.Test.YtpnondeaiinccaaDoorShelf
import Derived.WalkLawsBesides
namespace Go.Proofs.YtpnondeaiinccaaDoor
open Go.RowKit
set_option maxHeartbeats 800000 in
theorem i_orderOf (s t : ByteArray) (w : World) (hs : s.size ≤ maxLen) (ht : t.size ≤ maxLen) :
    Calls Tryd.prog 38 #[.string s, .string t] w fun e w' => e = .returned (.int .i64 (orderI s t)) ∧ w = w' := by
  by_cases hn : numOkS s = true
  · by_cases hm : numOkS t = true
    · have hz := numOkS_size hn
      have hy := numOkS_size hm
      by_cases hlt : s.size < t.size
      · have H := Lib.hid (orderI_lt hn hm hlt)
        have hne : ((s.size : Int) != (t.size : Int)) = true := by simp; omega
        go_enter Tryd.func38, Tryd.ntmps38
        go_wp2_with (first | (go_at_call 27; refine (i_numeralOk _ _ (by first | exact hs | exact ht)).mono ?_; rintro e w' ⟨rfl, rfl⟩) | go_in)
        go_ret
        exact ⟨ret_int (by rw [H.out]; omega), rfl⟩
      · by_cases hgt : t.size < s.size
        · have H := Lib.hid (orderI_gt hn hm hgt)
          have hne : ((s.size : Int) != (t.size : Int)) = true := by simp; omega
          go_enter Tryd.func38, Tryd.ntmps38
          go_wp2_with (first | (go_at_call 27; refine (i_numeralOk _ _ (by first | exact hs | exact ht)).mono ?_; rintro e w' ⟨rfl, rfl⟩) | go_in)
          go_ret
          exact ⟨ret_int (by rw [H.out]; omega), rfl⟩
        · have he : s.size = t.size := by omega
          have H := Lib.hid (orderI_eq hn hm he)
          have hne : ((s.size : Int) != (t.size : Int)) = false := by simp; omega
          clear he hlt hgt
          go_enter Tryd.func38, Tryd.ntmps38
          go_wp2_with (first | (go_at_call 27; refine (i_numeralOk _ _ (by first | exact hs | exact ht)).mono ?_; rintro e w' ⟨rfl, rfl⟩) | (go_at_call 84; refine (Tryd.strings_Compare _ _ _).mono ?_; rintro e w' ⟨rfl, rfl⟩))
          go_ret
          exact ⟨ret_int H.out.symm, rfl⟩
    · have H := Lib.hid (orderI_bad2 (s := s) (ne_true hm))
      have hm' := ne_true hm
      clear hm
      go_enter Tryd.func38, Tryd.ntmps38
      go_wp2_with (go_at_call 27; refine (i_numeralOk _ _ (by first | exact hs | exact ht)).mono ?_; rintro e w' ⟨rfl, rfl⟩)
      go_ret
      exact ⟨ret_int H.out.symm, rfl⟩
  · have H := Lib.hid (orderI_bad1 (t := t) (ne_true hn))
    have hn' := ne_true hn
    clear hn
    go_enter Tryd.func38, Tryd.ntmps38
    go_wp2_with (go_at_call 27; refine (i_numeralOk _ _ hs).mono ?_; rintro e w' ⟨rfl, rfl⟩)
    go_ret
    exact ⟨ret_int H.out.symm, rfl⟩
end Go.Proofs.YtpnondeaiinccaaDoor
