/- Walks of DigitSum and ElevenOf of the program and of the reference, and of NineOf of the program. -/
import Derived.Test.YtpnondeaiinccaaDoorNum
namespace Go.Proofs.YtpnondeaiinccaaDoor
open Go.RowKit




set_option maxHeartbeats 800000 in
theorem i_digitSum (s : ByteArray) (w : World) (hs : s.size ≤ maxLen) :
    Calls Tryd.prog 59 #[.string s] w fun e w' => e = .returned (.int .i64 (dsumI s)) ∧ w = w' := by
  by_cases hn : numOkS s = true
  · have hz := numOkS_size hn
    have HN := Lib.hid hn
    have H := Lib.hid (dsumI_ok hn)
    go_enter Tryd.func59, Tryd.ntmps59
    go_wp2_with (go_at_call 27; refine (i_numeralOk _ _ hs).mono ?_; rintro e w' ⟨rfl, rfl⟩)
    clear hn
    go_loop [3, 4, 10] (fun t _ i => ∃ k : Nat, k ≤ s.size ∧ i = .int .i64 k ∧ t = .int .i64 (sumTo (dAtS s) k : Nat)) (fun _ _ i => s.size - (intOf i).toNat)
    case atStart => exact ⟨0, Nat.zero_le _, rfl, rfl⟩
    case round =>
      obtain ⟨k, hk, rfl, rfl⟩ := hrel
      by_cases hlt : k < s.size
      · have hb := dsum_to_le HN.out k
        have hd := dAtS_le HN.out k
        have E := Lib.hid (show sumTo (dAtS s) (k + 1) = sumTo (dAtS s) k + dAtS s k from rfl)
        go_wp2_with (go_at_call 60; refine (i_digit _ _ _ HN.out (by omega) (by omega)).mono ?_; rintro e w' ⟨rfl, rfl⟩)
        go_round
        case rel => exact ⟨k + 1, by omega, by go_num, by rw [E.out]; go_num⟩
        case measure => simp [intOf]; omega
      · obtain rfl : k = s.size := by omega
        go_wp2
        go_ret
        exact ⟨ret_int (by rw [H.out]; rfl), rfl⟩
  · have H := Lib.hid (dsumI_bad (ne_true hn))
    have hn' := ne_true hn
    clear hn
    go_enter Tryd.func59, Tryd.ntmps59
    go_wp2_with (go_at_call 27; refine (i_numeralOk _ _ hs).mono ?_; rintro e w' ⟨rfl, rfl⟩)
    go_ret
    exact ⟨ret_int H.out.symm, rfl⟩

set_option maxHeartbeats 400000 in
theorem i_nineOf (s : ByteArray) (w : World) (hs : s.size ≤ maxLen) :
    Calls Tryd.prog 21 #[.string s] w fun e w' => e = .returned (.int .i64 (nineI s)) ∧ w = w' := by
  by_cases hn : numOkS s = true
  · have H := Lib.hid (nineI_ok hn)
    have H1 := Lib.hid (dsumI_ok hn)
    have h0 : 0 ≤ dsumI s := by rw [dsumI_ok hn]; omega
    have h9 := dsumI_le s
    go_enter Tryd.func21, Tryd.ntmps21
    go_wp2_with (first | (go_at_call 27; refine (i_numeralOk _ _ hs).mono ?_; rintro e w' ⟨rfl, rfl⟩) | (go_at_call 59; refine (i_digitSum _ _ hs).mono ?_; rintro e w' ⟨rfl, rfl⟩))
    go_ret
    exact ⟨ret_int (by rw [H.out, H1.out]; omega), rfl⟩
  · have H := Lib.hid (nineI_bad (ne_true hn))
    have hn' := ne_true hn
    clear hn
    go_enter Tryd.func21, Tryd.ntmps21
    go_wp2_with (go_at_call 27; refine (i_numeralOk _ _ hs).mono ?_; rintro e w' ⟨rfl, rfl⟩)
    go_ret
    exact ⟨ret_int H.out.symm, rfl⟩

theorem eleven_end (a : Int) : a.tmod 11 % 11 = a % 11 := by
  rcases Int.le_total 0 a with h | h
  · rw [Int.tmod_eq_emod_of_nonneg h]; omega
  · have e : a.tmod 11 = -((-a) % 11) := by
      rw [← Int.tmod_eq_emod_of_nonneg (by omega : (0 : Int) ≤ -a), Int.neg_tmod, Int.neg_neg]
    rw [e]; omega
theorem tmod11 (a : Int) : -10 ≤ a.tmod 11 ∧ a.tmod 11 ≤ 10 := by
  rcases Int.le_total 0 a with h | h
  · rw [Int.tmod_eq_emod_of_nonneg h]; omega
  · have e : a.tmod 11 = -((-a) % 11) := by
      rw [← Int.tmod_eq_emod_of_nonneg (by omega : (0 : Int) ≤ -a), Int.neg_tmod, Int.neg_neg]
    rw [e]; omega
set_option maxHeartbeats 800000 in
theorem i_elevenOf (s : ByteArray) (w : World) (hs : s.size ≤ maxLen) :
    Calls Tryd.prog 22 #[.string s] w fun e w' => e = .returned (.int .i64 (elevenI s)) ∧ w = w' := by
  by_cases hn : numOkS s = true
  · have hz := numOkS_size hn
    have HN := Lib.hid hn
    have H := Lib.hid (elevenI_ok hn)
    go_enter Tryd.func22, Tryd.ntmps22
    go_wp2_with (go_at_call 27; refine (i_numeralOk _ _ hs).mono ?_; rintro e w' ⟨rfl, rfl⟩)
    clear hn
    go_loop [3, 4, 10] (fun t _ i => ∃ k : Nat, k ≤ s.size ∧ i = .int .i64 k ∧ t = .int .i64 (altTo (dAtS s) k)) (fun _ _ i => s.size - (intOf i).toNat)
    case atStart => exact ⟨0, Nat.zero_le _, rfl, rfl⟩
    case round =>
      obtain ⟨k, hk, rfl, rfl⟩ := hrel
      have hb := altTo_le HN.out k
      by_cases hlt : k < s.size
      · have hd := dAtS_le HN.out k
        by_cases hp : k % 2 = 0
        · have E := Lib.hid (altTo_even (f := dAtS s) hp)
          have ht : (((k : Int) % 2) == 0) = true := by simp; omega
          clear hp
          go_wp2_with (go_at_call 60; refine (i_digit _ _ _ HN.out (by omega) (by omega)).mono ?_; rintro e w' ⟨rfl, rfl⟩)
          go_round
          case rel => exact ⟨k + 1, by omega, by go_num, by rw [E.out]⟩
          case measure => simp [intOf]; omega
        · have E := Lib.hid (altTo_odd (f := dAtS s) hp)
          have ht : (((k : Int) % 2) == 0) = false := by simp; omega
          clear hp
          go_wp2_with (go_at_call 60; refine (i_digit _ _ _ HN.out (by omega) (by omega)).mono ?_; rintro e w' ⟨rfl, rfl⟩)
          go_round
          case rel => exact ⟨k + 1, by omega, by go_num, by rw [E.out]⟩
          case measure => simp [intOf]; omega
      · obtain rfl : k = s.size := by omega
        have ht := tmod11 (altTo (dAtS s) s.size)
        have E := Lib.hid (eleven_end (altTo (dAtS s) s.size))
        go_wp2
        go_ret
        exact ⟨ret_int (H.out.trans E.out.symm).symm, rfl⟩
  · have H := Lib.hid (elevenI_bad (ne_true hn))
    have hn' := ne_true hn
    clear hn
    go_enter Tryd.func22, Tryd.ntmps22
    go_wp2_with (go_at_call 27; refine (i_numeralOk _ _ hs).mono ?_; rintro e w' ⟨rfl, rfl⟩)
    go_ret
    exact ⟨ret_int H.out.symm, rfl⟩

end Go.Proofs.YtpnondeaiinccaaDoor
