/- Walks of the functions on digits: digit, DigitAt, DigitSum of the program and of the reference. -/
import Derived.Test.YtpnondeaiinccaaDoorNumOk
import Derived.Test.YtpnondeaiinccaaDoorPlain2
namespace Go.Proofs.YtpnondeaiinccaaDoor
open Go.RowKit

theorem ne_true {b : Bool} (h : ¬ b = true) : b = false := by simpa using h
theorem ret_pair {a b c d : Value} (h : a = c) (g : b = d) : Ending.returned (.tuple #[a, b]) = .returned (.tuple #[c, d]) := by rw [h, g]

set_option maxHeartbeats 400000 in
/-- impl.digit at a numeral and a place that is not below 0: the digit there. -/
theorem i_digit (s : ByteArray) (p : Int) (w : World) (hn : numOkS s = true) (h0 : 0 ≤ p) (h1 : p ≤ 9223372036854775807) :
    Calls Tryd.prog 60 #[.string s, .int .i64 p] w fun e w' => e = .returned (.int .i64 (dAtS s p.toNat : Int)) ∧ w = w' := by
  obtain ⟨k, rfl⟩ := Int.eq_ofNat_of_zero_le h0
  rw [Int.toNat_natCast]
  have hz := numOkS_size hn
  by_cases hk : k < s.size
  · have hd := numOkS_digit hn (s.size - 1 - k) (by omega)
    have H := Lib.hid (dAtS_lt hk)
    have d1 : (48 : Int) ≤ (s[s.size - 1 - k].toNat : Int) := by omega
    have d2 : (s[s.size - 1 - k].toNat : Int) ≤ 57 := by omega
    clear hd
    go_enter Tryd.func60, Tryd.ntmps60
    go_wp2
    go_ret
    exact ⟨ret_int (by rw [H.out]; omega), rfl⟩
  · have H := Lib.hid (dAtS_ge (s := s) (k := k) (by omega))

    go_enter Tryd.func60, Tryd.ntmps60
    go_wp2
    go_ret
    exact ⟨ret_int (by rw [H.out]; rfl), rfl⟩


set_option maxHeartbeats 400000 in
theorem s_digitAt (s : ByteArray) (p : Int) (w : World) (hs : s.size ≤ maxLen) (h1 : p ≤ 9223372036854775807) :
    Calls Tryd.prog 78 #[.string s, .int .i64 p] w fun e w' => e = .returned (.int .i64 (digitAtI s p)) ∧ w = w' := by
  by_cases hn : numOkS s = true
  · by_cases h0 : 0 ≤ p
    · have H := Lib.hid (digitAtI_ok hn h0)
      obtain ⟨k, rfl⟩ := Int.eq_ofNat_of_zero_le h0
      rw [Int.toNat_natCast] at H
      have hz := numOkS_size hn
      by_cases hk : k < s.size
      · have hd := numOkS_digit hn (s.size - 1 - k) (by omega)
        have H2 := Lib.hid (dAtS_lt hk)
        have d1 : (48 : Int) ≤ (s[s.size - 1 - k].toNat : Int) := by omega
        have d2 : (s[s.size - 1 - k].toNat : Int) ≤ 57 := by omega
        clear hd
        go_enter Tryd.func78, Tryd.ntmps78
        go_wp2_with (go_at_call 77; refine (s_numeralOk _ _ hs).mono ?_; rintro e w' ⟨rfl, rfl⟩)
        go_ret
        exact ⟨ret_int (by rw [H.out, H2.out]; omega), rfl⟩
      · have H2 := Lib.hid (dAtS_ge (s := s) (k := k) (by omega))
        go_enter Tryd.func78, Tryd.ntmps78
        go_wp2_with (go_at_call 77; refine (s_numeralOk _ _ hs).mono ?_; rintro e w' ⟨rfl, rfl⟩)
        go_ret
        exact ⟨ret_int (by rw [H.out, H2.out]; rfl), rfl⟩
    · have H := Lib.hid (digitAtI_neg (s := s) (p := p) (by omega))
      have h2 : p < 0 := by omega
      go_enter Tryd.func78, Tryd.ntmps78
      go_wp2_with (go_at_call 77; refine (s_numeralOk _ _ hs).mono ?_; rintro e w' ⟨rfl, rfl⟩)
      go_ret
      exact ⟨ret_int H.out.symm, rfl⟩
  · have hn' : numOkS s = false := by simpa using hn
    have H := Lib.hid (digitAtI_bad (p := p) hn')
    clear hn
    go_enter Tryd.func78, Tryd.ntmps78
    go_wp2_with (go_at_call 77; refine (s_numeralOk _ _ hs).mono ?_; rintro e w' ⟨rfl, rfl⟩)
    go_ret
    exact ⟨ret_int H.out.symm, rfl⟩
end Go.Proofs.YtpnondeaiinccaaDoor
