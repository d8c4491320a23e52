/- Walk of spec.l2Trim: noughts ahead are struck. -/
import Derived.Test.YtpnondeaiinccaaDoorNum
import Derived.Test.YtpnondeaiinccaaDoorVal
import Derived.LoopTactic
namespace Go.Proofs.YtpnondeaiinccaaDoor
open Go.RowKit
set_option linter.unusedVariables false
theorem trimZ_nought {l : List UInt8} (h : l ≠ []) : trimZ (48 :: l) = trimZ l := by
  unfold trimZ
  rw [List.dropWhile_cons_of_pos (by simp)]
theorem trimZ_other {b : UInt8} {l : List UInt8} (h : b ≠ 48) : trimZ (b :: l) = b :: l := by
  unfold trimZ
  rw [List.dropWhile_cons_of_neg (by simpa using h)]; simp
theorem trimZ_one (b : UInt8) : trimZ [b] = [b] := by
  by_cases h : b = 48
  · subst h; rfl
  · exact trimZ_other h
def trimS (s : ByteArray) : ByteArray := if s.size ≤ 1 then s else ⟨(trimZ s.data.toList).toArray⟩
theorem trimS_short {s : ByteArray} (h : s.size ≤ 1) : trimS s = s := by unfold trimS; rw [if_pos h]
theorem list_cons {s : ByteArray} (h : 1 < s.size) : ∃ l, l ≠ [] ∧ s.data.toList = s[0] :: l ∧ (s.extract 1 s.size).data.toList = l := by
  have hl : s.data.toList.length = s.size := size_toList s
  match hm : s.data.toList with
  | [] => rw [hm] at hl; simp at hl; omega
  | b :: l =>
    have hb : b = s[0] := by
      have := toList_get s 0 (by omega)
      rw [hm] at this
      simpa using this
    refine ⟨l, ?_, by rw [hb], ?_⟩
    · rintro rfl; rw [hm] at hl; simp at hl; omega
    · have : (s.extract 1 s.size).data.toList = s.data.toList.drop 1 := by
        rw [ByteArray.data_extract, Array.toList_extract]
        show (List.drop 1 s.data.toList).take (s.size - 1) = _
        exact List.take_of_length_le (by rw [List.length_drop]; omega)
      rw [this, hm]; rfl
theorem trimS_nought {s : ByteArray} (h : 1 < s.size) (h0 : s[0].toNat = 48) : trimS s = trimS (s.extract 1 s.size) := by
  obtain ⟨l, hne, e1, e2⟩ := list_cons h
  have hb : s[0] = 48 := UInt8.toNat_inj.1 h0
  have hs : (s.extract 1 s.size).size = s.size - 1 := by simp [ByteArray.size_extract]
  unfold trimS
  rw [if_neg (by omega), e1, hb, trimZ_nought hne, hs]
  by_cases h2 : s.size - 1 ≤ 1
  · rw [if_pos h2]
    apply ba_ext
    rw [e2]
    have hl : l.length = 1 := by
      have := size_toList (s.extract 1 s.size)
      rw [e2, hs] at this; omega
    match l, hl with
    | [b], _ => exact trimZ_one b
  · rw [if_neg h2, e2]
theorem trimS_other {s : ByteArray} (h : 1 < s.size) (h0 : s[0].toNat ≠ 48) : trimS s = s := by
  obtain ⟨l, hne, e1, e2⟩ := list_cons h
  have hb : s[0] ≠ 48 := fun e => h0 (by rw [e]; rfl)
  unfold trimS
  rw [if_neg (by omega), e1, trimZ_other hb]
  apply ba_ext
  rw [e1]
theorem ret_string {a b : ByteArray} (h : a = b) : Ending.returned (.string a) = .returned (.string b) := by rw [h]
set_option maxHeartbeats 800000 in
theorem s_trim (s : ByteArray) (w : World) (hs : s.size ≤ maxLen) :
    Calls Tryd.prog 66 #[.string s] w fun e w' => e = .returned (.string (trimS s)) ∧ w = w' := by
  unfold maxLen at hs
  go_enter Tryd.func66, Tryd.ntmps66
  go_wp2
  go_loop [0] (fun t => ∃ u : ByteArray, t = .string u ∧ u.size ≤ 9223372036854775807 ∧ trimS u = trimS s) (fun t => match t with | .string u => u.size | _ => 0)
  case atStart => exact ⟨s, rfl, hs, rfl⟩
  case round =>
    obtain ⟨u, rfl, hu, he⟩ := hrel
    have HE := Lib.hid he
    clear he
    by_cases h1 : 1 < u.size
    · by_cases h0 : u[0].toNat = 48
      · have H := Lib.hid (trimS_nought h1 h0)
        have hz : (u.extract 1 u.size).size = u.size - 1 := by simp [ByteArray.size_extract]
        have HZ := Lib.hid hz
        have t1 : ((u[0].toNat : Int) == 48) = true := by simp [h0]
        clear h0 hz
        go_wp2
        go_round
        case rel => exact ⟨_, rfl, by have := HZ.out; omega, H.out.symm.trans HE.out⟩
        case measure => have := HZ.out; simp; omega
      · have H := Lib.hid (trimS_other h1 h0)
        have t1 : ((u[0].toNat : Int) == 48) = false := by simp; omega
        clear h0
        go_wp2
        go_ret
        exact ⟨ret_string (by rw [← HE.out, H.out]), rfl⟩
    · have H := Lib.hid (trimS_short (s := u) (by omega))
      go_wp2
      go_ret
      exact ⟨ret_string (by rw [← HE.out, H.out]), rfl⟩
end Go.Proofs.YtpnondeaiinccaaDoor
