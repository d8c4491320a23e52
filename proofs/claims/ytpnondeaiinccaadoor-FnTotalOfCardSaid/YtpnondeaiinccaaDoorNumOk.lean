/- impl.NumeralOk and spec.NumeralOk: both tell whether a text is a numeral. -/
import Derived.Test.YtpnondeaiinccaaDoorRows
import Derived.Test.YtpnondeaiinccaaDoorPlain
import Derived.WalkKit
import Derived.WalkSpells
import Derived.WalkLawsBesides
import Derived.Lib.Hide
namespace Go.Proofs.YtpnondeaiinccaaDoor
open Go.RowKit

theorem ret_bool {a b : Bool} (h : a = b) : Ending.returned (.bool a) = .returned (.bool b) := by rw [h]
theorem ret_int {k : IntKind} {a b : Int} (h : a = b) : Ending.returned (.int k a) = .returned (.int k b) := by rw [h]


set_option maxHeartbeats 800000 in
theorem i_numeralOk (s : ByteArray) (w : World) (hs : s.size ≤ maxLen) :
    Calls Tryd.prog 27 #[.string s] w fun e w' => e = .returned (.bool (numOkS s)) ∧ w = w' := by
  unfold maxLen at hs
  go_enter Tryd.func27, Tryd.ntmps27
  go_wp2
  go_loop [3] (fun i => ∃ k : Nat, k ≤ s.size ∧ i = .int .i64 k ∧ AllD s k) (fun i => s.size - (intOf i).toNat)
  case atStart => exact ⟨0, Nat.zero_le _, rfl, AllD.zero s⟩
  case round =>
    obtain ⟨k, hk, rfl, had⟩ := hrel
    by_cases hlt : k < s.size
    · by_cases h1 : (s[k].toNat : Int) < 48
      · go_wp2
        go_ret
        exact ⟨ret_bool (numOkS_false_digit hlt (isD_lo h1)).symm, rfl⟩
      · by_cases h2 : 57 < (s[k].toNat : Int)
        · go_wp2
          go_ret
          exact ⟨ret_bool (numOkS_false_digit hlt (isD_hi h2)).symm, rfl⟩
        · have H := Lib.hid (had.succ hlt (isD_of h1 h2))
          go_wp2
          go_round
          case rel => exact ⟨k + 1, by omega, by go_num, H.out⟩
          case measure => simp [intOf]; omega
    · obtain rfl : k = s.size := by omega
      have HA := Lib.hid had
      clear had
      by_cases g0 : s.size = 0
      · have H := Lib.hid (numOkS_empty g0)
        have g0' : s.size < 1 := by omega
        clear g0
        go_wp2
        go_ret
        exact ⟨ret_bool H.out.symm, rfl⟩
      · by_cases g9 : 9 < s.size
        · go_wp2
          go_ret
          exact ⟨ret_bool (numOkS_long g9).symm, rfl⟩
        · by_cases g1 : s.size = 1
          · have H := Lib.hid (numOkS_one HA.out g1)
            have p0 : 0 < s.size := by omega
            have l1 : s.size ≤ 1 := by omega
            have l2 : ((s.size : Int) == 1) = true := by simp [g1]
            clear g1 g0
            by_cases z : ((s[0].toNat : Int) != 48) = true
            · go_wp2
              go_ret
              exact ⟨ret_bool H.out.symm, rfl⟩
            · have z' : ((s[0].toNat : Int) != 48) = false := by simpa using z
              clear z
              go_wp2
              go_ret
              exact ⟨ret_bool H.out.symm, rfl⟩
          · have p0 : 2 ≤ s.size := by omega
            have l2 : ((s.size : Int) == 1) = false := by simp; omega
            clear g1 g0
            by_cases z : s[0].toNat = 48
            · have H := Lib.hid (numOkS_nought p0 z)
              have z' : ((s[0].toNat : Int) != 48) = false := by simp [z]
              clear z
              go_wp2
              go_ret
              exact ⟨ret_bool H.out.symm, rfl⟩
            · have H := Lib.hid (numOkS_more HA.out p0 (by omega) z)
              have z' : ((s[0].toNat : Int) != 48) = true := by simp; omega
              clear z
              go_wp2
              go_ret
              exact ⟨ret_bool H.out.symm, rfl⟩

set_option maxHeartbeats 800000 in
theorem s_numeralOk (s : ByteArray) (w : World) (hs : s.size ≤ maxLen) :
    Calls Tryd.prog 77 #[.string s] w fun e w' => e = .returned (.bool (numOkS s)) ∧ w = w' := by
  unfold maxLen at hs
  go_enter Tryd.func77, Tryd.ntmps77
  go_wp2
  go_loop [3] (fun i => ∃ k : Nat, k ≤ s.size ∧ i = .int .i64 k ∧ AllD s k) (fun i => s.size - (intOf i).toNat)
  case atStart => exact ⟨0, Nat.zero_le _, rfl, AllD.zero s⟩
  case round =>
    obtain ⟨k, hk, rfl, had⟩ := hrel
    by_cases hlt : k < s.size
    · by_cases h1 : (s[k].toNat : Int) < 48
      · go_wp2
        go_ret
        exact ⟨ret_bool (numOkS_false_digit hlt (isD_lo h1)).symm, rfl⟩
      · by_cases h2 : 57 < (s[k].toNat : Int)
        · go_wp2
          go_ret
          exact ⟨ret_bool (numOkS_false_digit hlt (isD_hi h2)).symm, rfl⟩
        · have H := Lib.hid (had.succ hlt (isD_of h1 h2))
          go_wp2
          go_round
          case rel => exact ⟨k + 1, by omega, by go_num, H.out⟩
          case measure => simp [intOf]; omega
    · obtain rfl : k = s.size := by omega
      have HA := Lib.hid had
      clear had
      by_cases g0 : s.size = 0
      · have H := Lib.hid (numOkS_empty g0)
        have g0' : s.size < 1 := by omega
        clear g0
        go_wp2
        go_ret
        exact ⟨ret_bool H.out.symm, rfl⟩
      · by_cases g9 : 9 < s.size
        · go_wp2
          go_ret
          exact ⟨ret_bool (numOkS_long g9).symm, rfl⟩
        · by_cases g1 : s.size = 1
          · have H := Lib.hid (numOkS_one HA.out g1)
            have p0 : 0 < s.size := by omega
            have l1 : s.size ≤ 1 := by omega
            have l2 : ((s.size : Int) == 1) = true := by simp [g1]
            clear g1 g0
            by_cases z : ((s[0].toNat : Int) != 48) = true
            · go_wp2
              go_ret
              exact ⟨ret_bool H.out.symm, rfl⟩
            · have z' : ((s[0].toNat : Int) != 48) = false := by simpa using z
              clear z
              go_wp2
              go_ret
              exact ⟨ret_bool H.out.symm, rfl⟩
          · have p0 : 2 ≤ s.size := by omega
            have l2 : ((s.size : Int) == 1) = false := by simp; omega
            clear g1 g0
            by_cases z : s[0].toNat = 48
            · have H := Lib.hid (numOkS_nought p0 z)
              have z' : ((s[0].toNat : Int) != 48) = false := by simp [z]
              clear z
              go_wp2
              go_ret
              exact ⟨ret_bool H.out.symm, rfl⟩
            · have H := Lib.hid (numOkS_more HA.out p0 (by omega) z)
              have z' : ((s[0].toNat : Int) != 48) = true := by simp; omega
              clear z
              go_wp2
              go_ret
              exact ⟨ret_bool H.out.symm, rfl⟩

end Go.Proofs.YtpnondeaiinccaaDoor
