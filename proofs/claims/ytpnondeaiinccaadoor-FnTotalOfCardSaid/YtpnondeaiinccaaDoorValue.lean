/- Walks of ValueOf of the program and of the reference. -/
import Derived.Test.YtpnondeaiinccaaDoorNum
import Derived.Test.YtpnondeaiinccaaDoorVal
import Derived.LoopTactic
import Derived.Lib.Atoi
import Derived.Lib.SmallJoins
import Derived.Test.YtpnondeaiinccaaDoorShelf
namespace Go.Proofs.YtpnondeaiinccaaDoor
open Go.RowKit
set_option linter.unusedVariables false
def valI (s : ByteArray) : Int := if numOkS s = true then (valS s : Int) else -1
theorem valI_ok {s : ByteArray} (h : numOkS s = true) : valI s = (valS s : Int) := by unfold valI; rw [if_pos h]
theorem valI_bad {s : ByteArray} (h : numOkS s = false) : valI s = -1 := by unfold valI; rw [if_neg (by simp [h])]
theorem digitVal_isD {b : UInt8} (h : isD b = true) : Lib.digitVal b = some (dv b) := by
  rw [isD_iff] at h
  unfold Lib.digitVal dv
  simp
  omega
theorem decFrom_all : ∀ (l : List UInt8) (acc : Nat), l.all isD = true → Lib.decFrom acc l = some (l.foldl step acc)
  | [], acc, _ => rfl
  | b :: l, acc, h => by
    simp only [List.all_cons, Bool.and_eq_true] at h
    rw [Lib.decFrom, digitVal_isD h.1]
    simp only [List.foldl_cons]
    rw [decFrom_all l _ h.2]
    unfold step
    rw [Nat.mul_comm]
theorem atoi_num {s : ByteArray} (h : numOkS s = true) : Lib.atoi s.data.toList = some (valS s : Int) := by
  have hs := numOkS_size h
  have hl : s.data.toList.length = s.size := size_toList s
  unfold numOkS numOk at h
  simp only [Bool.and_eq_true] at h
  unfold valS
  generalize s.data.toList = l at *
  match l, h with
  | [], _ => simp at hl; omega
  | b :: r, h =>
    have ha := h.1.1
    have hb : isD b = true := by simp only [List.all_cons, Bool.and_eq_true] at ha; exact ha.1
    rw [isD_iff] at hb
    have n1 : (b == 45) = false := by
      rw [beq_eq_false_iff_ne]; rintro rfl; revert hb; decide
    have n2 : (b == 43) = false := by
      rw [beq_eq_false_iff_ne]; rintro rfl; revert hb; decide
    have e : Lib.atoi (b :: r) = (if b == 45 then (Lib.decNat r).map fun (m : Nat) => -(m : Int) else if b == 43 then (Lib.decNat r).map fun (m : Nat) => (m : Int) else (Lib.decNat (b :: r)).map fun (m : Nat) => (m : Int)) := rfl
    rw [e, n1, n2]
    have e2 : Lib.decNat (b :: r) = Lib.decFrom 0 (b :: r) := rfl
    rw [e2, decFrom_all _ _ ha]
    rfl
set_option maxHeartbeats 800000 in
theorem i_valueOf (s : ByteArray) (w : World) (hs : s.size ≤ maxLen) :
    Calls Tryd.prog 17 #[.string s] w fun e w' => e = .returned (.int .i64 (valI s)) ∧ Below w.heap.size w w' := by
  by_cases hn : numOkS s = true
  · have H := Lib.hid (valI_ok hn)
    have hz := numOkS_size hn
    have ha := Lib.hid (atoi_num hn)
    go_enter Tryd.func17, Tryd.ntmps17
    go_wp2_with (first | (go_at_call 27; refine (i_numeralOk _ _ hs).mono ?_; rintro e w' ⟨rfl, rfl⟩) | (go_at_call 57; refine (Tryd.strconv_Atoi s _ (by omega) ha.out _).mono ?_; rintro e w1 ⟨rfl, t, rfl⟩))
    go_ret
    exact ⟨ret_int H.out.symm, Joins.below_bytesWorld _ _ _ _ (Nat.le_refl _)⟩
  · have hn' := ne_true hn
    have H := Lib.hid (valI_bad hn')
    clear hn
    go_enter Tryd.func17, Tryd.ntmps17
    go_wp2_with (go_at_call 27; refine (i_numeralOk _ _ hs).mono ?_; rintro e w' ⟨rfl, rfl⟩)
    go_ret
    exact ⟨ret_int H.out.symm, Below.refl _ _⟩
end Go.Proofs.YtpnondeaiinccaaDoor
