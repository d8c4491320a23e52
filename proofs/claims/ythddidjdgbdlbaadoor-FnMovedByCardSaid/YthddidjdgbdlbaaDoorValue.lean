/- Walks of ValueOf of the program and of the reference. -/
import Derived.Test.YthddidjdgbdlbaaDoorNum
import Derived.Test.YthddidjdgbdlbaaDoorVal
import Derived.LoopTactic
import Derived.Lib.Atoi
import Derived.Lib.SmallJoins
import Derived.Test.YthddidjdgbdlbaaDoorShelf
namespace Go.Proofs.YthddidjdgbdlbaaDoor
open Go.RowKit
set_option linter.unusedVariables false
def valI (s : ByteArray) : Int := if numOkS s = true then (valS s : Int) else -1
theorem valI_ok {s : ByteArray} (h : numOkS s = true) : valI s = (valS s : Int) := by unfold valI; rw [if_pos h]
theorem valI_bad {s : ByteArray} (h : numOkS s = false) : valI s = -1 := by unfold valI; rw [if_neg (by simp [h])]
theorem digitVal_isD {b : UInt8} (h : isD b = true) : Lib.digitVal b = some (dv b) := by
  rw [isD_iff] at h
  unfold Lib.digitVal dv
  simp
  omega
theorem decFrom_all : ∀ (l : List UInt8) (acc : Nat), l.all isD = true → Lib.decFrom acc l = some (l.foldl step acc)
  | [], acc, _ => rfl
  | b :: l, acc, h => by
    simp only [List.all_cons, Bool.and_eq_true] at h
    rw [Lib.decFrom, digitVal_isD h.1]
    simp only [List.foldl_cons]
    rw [decFrom_all l _ h.2]
    unfold step
    rw [Nat.mul_comm]
theorem atoi_num {s : ByteArray} (h : numOkS s = true) : Lib.atoi s.data.toList = some (valS s : Int) := by
  have hs := numOkS_size h
  have hl : s.data.toList.length = s.size := size_toList s
  unfold numOkS numOk at h
  simp only [Bool.and_eq_true] at h
  unfold valS
  generalize s.data.toList = l at *
  match l, h with
  | [], _ => simp at hl; omega
  | b :: r, h =>
    have ha := h.1.1
    have hb : isD b = true := by simp only [List.all_cons, Bool.and_eq_true] at ha; exact ha.1
    rw [isD_iff] at hb
    have n1 : (b == 45) = false := by
      rw [beq_eq_false_iff_ne]; rintro rfl; revert hb; decide
    have n2 : (b == 43) = false := by
      rw [beq_eq_false_iff_ne]; rintro rfl; revert hb; decide
    have e : Lib.atoi (b :: r) = (if b == 45 then (Lib.decNat r).map fun (m : Nat) => -(m : Int) else if b == 43 then (Lib.decNat r).map fun (m : Nat) => (m : Int) else (Lib.decNat (b :: r)).map fun (m : Nat) => (m : Int)) := rfl
    rw [e, n1, n2]
    have e2 : Lib.decNat (b :: r) = Lib.decFrom 0 (b :: r) := rfl
    rw [e2, decFrom_all _ _ ha]
    rfl
set_option maxHeartbeats 800000 in
theorem i_valueOf (s : ByteArray) (w : World) (hs : s.size ≤ maxLen) :
    Calls Tryd.prog 16 #[.string s] w fun e w' => e = .returned (.int .i64 (valI s)) ∧ Below w.heap.size w w' := by
  by_cases hn : numOkS s = true
  · have H := Lib.hid (valI_ok hn)
    have hz := numOkS_size hn
    have ha := Lib.hid (atoi_num hn)
    go_enter Tryd.func16, Tryd.ntmps16
    go_wp2_with (first | (go_at_call 25; refine (i_numeralOk _ _ hs).mono ?_; rintro e w' ⟨rfl, rfl⟩) | (go_at_call 57; refine (Tryd.strconv_Atoi s _ (by omega) ha.out _).mono ?_; rintro e w1 ⟨rfl, t, rfl⟩))
    go_ret
    exact ⟨ret_int H.out.symm, Joins.below_bytesWorld _ _ _ _ (Nat.le_refl _)⟩
  · have hn' := ne_true hn
    have H := Lib.hid (valI_bad hn')
    clear hn
    go_enter Tryd.func16, Tryd.ntmps16
    go_wp2_with (go_at_call 25; refine (i_numeralOk _ _ hs).mono ?_; rintro e w' ⟨rfl, rfl⟩)
    go_ret
    exact ⟨ret_int H.out.symm, Below.refl _ _⟩
theorem left_bd {s : ByteArray} (hn : numOkS s = true) (k : Nat) (hk : k ≤ s.size) : leftTo (lAtS s) k < 10 ^ k := by
  have hd : ∀ j, j < s.size → lAtS s j ≤ 9 := fun j hj => by
    have := numOkS_digit hn j hj
    rw [lAtS_lt hj]; omega
  induction k with
  | zero => simp [leftTo]
  | succ k ih =>
    have h1 := ih (by omega)
    have h2 := hd k (by omega)
    rw [leftTo, Nat.pow_succ]; omega
theorem left_bd9 {s : ByteArray} (hn : numOkS s = true) (k : Nat) (hk : k ≤ s.size) : leftTo (lAtS s) k < 1000000000 := by
  have h1 := left_bd hn k hk
  have h2 := numOkS_size hn
  have h3 : 10 ^ k ≤ 10 ^ 9 := Nat.pow_le_pow_right (by omega) (by omega)
  have h4 : (10 : Nat) ^ 9 = 1000000000 := by decide
  omega
set_option maxHeartbeats 800000 in
theorem s_valueOf (s : ByteArray) (w : World) (hs : s.size ≤ maxLen) :
    Calls Tryd.prog 17 #[.string s] w fun e w' => e = .returned (.int .i64 (valI s)) ∧ w = w' := by
  by_cases hn : numOkS s = true
  · have H := Lib.hid ((valI_ok hn).trans (congrArg Nat.cast (valS_left s).symm))
    have hz := numOkS_size hn
    have HN := Lib.hid hn
    have hn2 := hn
    clear hn
    go_enter Tryd.func17, Tryd.ntmps17
    go_wp2
    go_loop [3, 4] (fun t i => ∃ k : Nat, k ≤ s.size ∧ i = .int .i64 k ∧ t = .int .i64 (leftTo (lAtS s) k : Nat)) (fun _ i => s.size - (intOf i).toNat)
    case atStart => exact ⟨0, Nat.zero_le _, rfl, rfl⟩
    case round =>
      obtain ⟨k, hk, rfl, rfl⟩ := hrel
      have hb := left_bd9 HN.out k hk
      by_cases hlt : k < s.size
      · have hd := numOkS_digit HN.out k hlt
        have d1 : (48 : Int) ≤ (s[k].toNat : Int) := by omega
        have d2 : (s[k].toNat : Int) ≤ 57 := by omega
        have E := Lib.hid (show leftTo (lAtS s) (k + 1) = 10 * leftTo (lAtS s) k + (s[k].toNat - 48) by rw [leftTo, lAtS_lt hlt])
        clear hd
        go_wp2_with (go_at_call 58; refine (s_numeralOk _ _ hs).mono ?_; rintro e w' ⟨rfl, rfl⟩)
        go_round
        case rel => exact ⟨k + 1, by omega, by go_num, by rw [E.out]; go_num⟩
        case measure => simp [intOf]; omega
      · obtain rfl : k = s.size := by omega
        go_wp2_with (go_at_call 58; refine (s_numeralOk _ _ hs).mono ?_; rintro e w' ⟨rfl, rfl⟩)
        go_ret
        exact ⟨ret_int H.out.symm, rfl⟩
  · have hn' := ne_true hn
    have H := Lib.hid (valI_bad hn')
    clear hn
    by_cases hz : s.size = 0
    all_goals
      go_enter Tryd.func17, Tryd.ntmps17
      go_wp2
      go_loop [3, 4] (fun t i => t = .int .i64 0 ∧ i = .int .i64 0) (fun _ _ => 0)
      case atStart => exact ⟨rfl, rfl⟩
      case round =>
        obtain ⟨rfl, rfl⟩ := hrel
        go_wp2_with (go_at_call 58; refine (s_numeralOk _ _ hs).mono ?_; rintro e w' ⟨rfl, rfl⟩)
        go_ret
        exact ⟨ret_int H.out.symm, rfl⟩
end Go.Proofs.YthddidjdgbdlbaaDoor
