/- Walks of OrderOf of the program and of the reference. -/
import Derived.Test.YtpnondeaiinccaaDoorNum
import Derived.Lib.Bytealg
import Derived.Deep.QuietTactic
import Derived.BigQuiet
namespace Go.Proofs.YtpnondeaiinccaaDoor
open Go.RowKit

def orderI (s t : ByteArray) : Int :=
  if numOkS s = true ∧ numOkS t = true then (if s.size < t.size then -1 else if t.size < s.size then 1 else Lib.compareBytes s.data.toList t.data.toList) else -2
theorem orderI_bad1 {s t : ByteArray} (h : numOkS s = false) : orderI s t = -2 := by simp [orderI, h]
theorem orderI_bad2 {s t : ByteArray} (h : numOkS t = false) : orderI s t = -2 := by simp [orderI, h]
theorem orderI_lt {s t : ByteArray} (h1 : numOkS s = true) (h2 : numOkS t = true) (h : s.size < t.size) : orderI s t = -1 := by simp [orderI, h1, h2, h]
theorem orderI_gt {s t : ByteArray} (h1 : numOkS s = true) (h2 : numOkS t = true) (h : t.size < s.size) : orderI s t = 1 := by
  unfold orderI; rw [if_pos ⟨h1, h2⟩, if_neg (by omega), if_pos h]
theorem orderI_eq {s t : ByteArray} (h1 : numOkS s = true) (h2 : numOkS t = true) (h : s.size = t.size) : orderI s t = Lib.compareBytes s.data.toList t.data.toList := by
  unfold orderI; rw [if_pos ⟨h1, h2⟩, if_neg (by omega), if_neg (by omega)]

theorem cmp_same : ∀ l : List UInt8, Lib.compareBytes l l = 0
  | [] => rfl
  | a :: l => by simp [Lib.compareBytes, cmp_same l]
theorem cmp_at : ∀ (l m : List UInt8) (k : Nat) (a b : UInt8), l.take k = m.take k → l[k]? = some a → m[k]? = some b → a ≠ b → Lib.compareBytes l m = if a < b then -1 else 1
  | [], _, _, _, _, _, h, _, _ => by simp at h
  | _ :: _, [], _, _, _, _, _, h, _ => by simp at h
  | x :: l, y :: m, 0, a, b, _, h1, h2, hne => by
    simp at h1 h2; subst h1 h2
    unfold Lib.compareBytes
    by_cases hlt : x < y
    · simp [hlt]
    · have : y < x := by
        rcases Nat.lt_trichotomy x.toNat y.toNat with h | h | h
        · exact absurd (UInt8.lt_iff_toNat_lt.2 h) hlt
        · exact absurd (UInt8.toNat_inj.1 h) hne
        · exact UInt8.lt_iff_toNat_lt.2 h
      simp [hlt, this]
  | x :: l, y :: m, k + 1, a, b, ht, h1, h2, hne => by
    simp at ht h1 h2
    obtain ⟨rfl, ht⟩ := ht
    have := cmp_at l m k a b ht h1 h2 hne
    unfold Lib.compareBytes
    simp [this]
/-- the first k bytes are the same -/
def Agree (s t : ByteArray) (k : Nat) : Prop := s.data.toList.take k = t.data.toList.take k
theorem Agree.zero (s t : ByteArray) : Agree s t 0 := by simp [Agree]
theorem Agree.succ {s t : ByteArray} {k : Nat} (h : Agree s t k) (h1 : k < s.size) (h2 : k < t.size) (e : s[k] = t[k]) : Agree s t (k + 1) := by
  unfold Agree at *
  rw [List.take_add_one, List.take_add_one, h, toList_get s k h1, toList_get t k h2, e]
theorem Agree.whole {s t : ByteArray} (h : Agree s t s.size) (he : s.size = t.size) : Lib.compareBytes s.data.toList t.data.toList = 0 := by
  unfold Agree at h
  rw [List.take_of_length_le (by simp), List.take_of_length_le (by simp; omega)] at h
  rw [h]; exact cmp_same _
theorem Agree.lt {s t : ByteArray} {k : Nat} (h : Agree s t k) (h1 : k < s.size) (h2 : k < t.size) (hl : s[k].toNat < t[k].toNat) : Lib.compareBytes s.data.toList t.data.toList = -1 := by
  rw [cmp_at _ _ k _ _ h (toList_get s k h1) (toList_get t k h2) (fun e => by rw [e] at hl; omega), if_pos (UInt8.lt_iff_toNat_lt.2 hl)]
theorem Agree.gt {s t : ByteArray} {k : Nat} (h : Agree s t k) (h1 : k < s.size) (h2 : k < t.size) (hl : t[k].toNat < s[k].toNat) : Lib.compareBytes s.data.toList t.data.toList = 1 := by
  rw [cmp_at _ _ k _ _ h (toList_get s k h1) (toList_get t k h2) (fun e => by rw [e] at hl; omega), if_neg (fun c => by have := UInt8.lt_iff_toNat_lt.1 c; omega)]

set_option maxHeartbeats 1600000 in
theorem s_orderOf (s t : ByteArray) (w : World) (hs : s.size ≤ maxLen) (ht : t.size ≤ maxLen) :
    Calls Tryd.prog 82 #[.string s, .string t] w fun e w' => e = .returned (.int .i64 (orderI s t)) ∧ ∃ n, w' = w.drewN n := by
  by_cases hn : numOkS s = true
  · by_cases hm : numOkS t = true
    · have hz := numOkS_size hn
      have hy := numOkS_size hm
      by_cases hlt : s.size < t.size
      · have H := Lib.hid (orderI_lt hn hm hlt)
        have hne : ((s.size : Int) != (t.size : Int)) = true := by simp; omega
        go_enter Tryd.func82, Tryd.ntmps82
        go_wp2_with (go_at_call 77; refine (s_numeralOk _ _ (by first | exact hs | exact ht)).mono ?_; rintro e w' ⟨rfl, rfl⟩)
        go_ret
        exact ⟨ret_int H.out.symm, 0, rfl⟩
      · by_cases hgt : t.size < s.size
        · have H := Lib.hid (orderI_gt hn hm hgt)
          have hne : ((s.size : Int) != (t.size : Int)) = true := by simp; omega
          go_enter Tryd.func82, Tryd.ntmps82
          go_wp2_with (go_at_call 77; refine (s_numeralOk _ _ (by first | exact hs | exact ht)).mono ?_; rintro e w' ⟨rfl, rfl⟩)
          go_ret
          exact ⟨ret_int H.out.symm, 0, rfl⟩
        · have he : s.size = t.size := by omega
          have H := Lib.hid (orderI_eq hn hm he)
          have hne : ((s.size : Int) != (t.size : Int)) = false := by simp; omega
          have HE := Lib.hid he
          have he1 : s.size ≤ t.size := by omega
          have he2 : t.size ≤ s.size := by omega
          clear he hlt hgt
          go_enter Tryd.func82, Tryd.ntmps82
          go_wp2_with (go_at_call 77; refine (s_numeralOk _ _ (by first | exact hs | exact ht)).mono ?_; rintro e w' ⟨rfl, rfl⟩)
          clear hn hm
          go_loopw [5] (fun i wr => ∃ k n : Nat, k ≤ s.size ∧ i = .int .i64 k ∧ Agree s t k ∧ wr = w.drewN n) (fun i _ => s.size - (intOf i).toNat)
          case atStart => exact ⟨0, 0, Nat.zero_le _, rfl, Agree.zero s t, rfl⟩
          case round =>
            obtain ⟨k, n, hk, rfl, ha, rfl⟩ := hrel
            have HA := Lib.hid ha
            clear ha
            by_cases hl : k < s.size
            · have hl' : k < t.size := by omega
              have i1 : (k : Int) < (s.size : Int) := by omega
              have i2 : (k : Int) < (t.size : Int) := by omega
              rcases Nat.lt_trichotomy s[k].toNat t[k].toNat with hc | hc | hc
              · have A1 := Lib.hid (HA.out.lt hl hl' hc)
                have t1 : ((s[k].toNat : Int) != (t[k].toNat : Int)) = true := by simp; omega
                have t2 : ((s[k].toNat : Int) < (t[k].toNat : Int)) := by omega
                go_wp2
                go_quiet (fail)
                go_wp2
                go_quiet (fail)
                go_wp2
                go_ret
                exact ⟨ret_int (by rw [H.out, A1.out]), _, by rw [World.drewN_drewN, World.drewN_drewN]⟩
              · have A1 := Lib.hid (HA.out.succ hl hl' (UInt8.toNat_inj.1 hc))
                have t1 : ((s[k].toNat : Int) != (t[k].toNat : Int)) = false := by simp; omega
                clear hc
                go_wp2
                go_quiet (fail)
                go_wp2
                go_roundw
                case rel => exact ⟨k + 1, _, by omega, by go_num, A1.out, rfl⟩
                case measure => simp [intOf]; omega
              · have A1 := Lib.hid (HA.out.gt hl hl' hc)
                have t1 : ((s[k].toNat : Int) != (t[k].toNat : Int)) = true := by simp; omega
                have t2 : ¬ ((s[k].toNat : Int) < (t[k].toNat : Int)) := by omega
                go_wp2
                go_quiet (fail)
                go_wp2
                go_quiet (fail)
                go_wp2
                go_ret
                exact ⟨ret_int (by rw [H.out, A1.out]), _, by rw [World.drewN_drewN, World.drewN_drewN]⟩
            · obtain rfl : k = s.size := by omega
              have A1 := Lib.hid (HA.out.whole HE.out)
              go_wp2
              go_ret
              exact ⟨ret_int (by rw [H.out, A1.out]), _, rfl⟩
    · have H := Lib.hid (orderI_bad2 (s := s) (ne_true hm))
      have hm' := ne_true hm
      clear hm
      go_enter Tryd.func82, Tryd.ntmps82
      go_wp2_with (go_at_call 77; refine (s_numeralOk _ _ (by first | exact hs | exact ht)).mono ?_; rintro e w' ⟨rfl, rfl⟩)
      go_ret
      exact ⟨ret_int H.out.symm, 0, rfl⟩
  · have H := Lib.hid (orderI_bad1 (t := t) (ne_true hn))
    have hn' := ne_true hn
    clear hn
    go_enter Tryd.func82, Tryd.ntmps82
    go_wp2_with (go_at_call 77; refine (s_numeralOk s _ hs).mono ?_; rintro e w' ⟨rfl, rfl⟩)
    go_ret
    exact ⟨ret_int H.out.symm, 0, rfl⟩
end Go.Proofs.YtpnondeaiinccaaDoor
