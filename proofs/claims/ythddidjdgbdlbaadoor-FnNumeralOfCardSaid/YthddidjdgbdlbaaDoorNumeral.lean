/- Walks of NumeralOf and ValueOf of the program and of the reference. -/
import Derived.Test.YthddidjdgbdlbaaDoorTab
import Derived.Test.YthddidjdgbdlbaaDoorStrOk
import Derived.Test.YthddidjdgbdlbaaDoorVal
import Derived.Test.YthddidjdgbdlbaaDoorDec
import Derived.Lib.SmallJoins
namespace Go.Proofs.YthddidjdgbdlbaaDoor
open Go.RowKit
set_option linter.unusedVariables false
def numeralO (n : Int) : Option ByteArray := if 0 ≤ n ∧ n < 1000000000 then some (decS n.toNat) else none
theorem numeralO_neg {n : Int} (h : n < 0) : numeralO n = none := by unfold numeralO; rw [if_neg (by omega)]
theorem numeralO_big {n : Int} (h : 1000000000 ≤ n) : numeralO n = none := by unfold numeralO; rw [if_neg (by omega)]
theorem numeralO_ok {n : Int} (h0 : 0 ≤ n) (h : n < 1000000000) : numeralO n = some (decS n.toNat) := by unfold numeralO; rw [if_pos ⟨h0, h⟩]
theorem decS_num {n : Int} (h0 : 0 ≤ n) (h : n < 1000000000) : numOkS (decS n.toNat) = true := by rw [decS_ok]; simp; omega
theorem decS_big {n : Int} (h : 1000000000 ≤ n) : numOkS (decS n.toNat) = false := by rw [decS_ok]; simp; omega
theorem itoa_pos {n : Int} (h : 0 ≤ n) : (⟨(Lib.itoa n).toArray⟩ : ByteArray) = decS n.toNat := by unfold Lib.itoa; rw [if_neg (by omega)]; rfl
theorem itoa_neg {n : Int} (h : n < 0) : numOkS ⟨(Lib.itoa n).toArray⟩ = false := by
  unfold Lib.itoa numOkS numOk
  rw [if_pos h]
  simp [isD]
theorem dec_size_le (n : Nat) : (decS n).size ≤ n + 1 := by
  show (Lib.decDigits n).toArray.size ≤ n + 1
  rw [List.size_toArray]; exact dec_len n n (Nat.le_refl _)
theorem dec_len19 (n : Nat) (h : n ≤ 9223372036854775808) : (Lib.decDigits n).length ≤ 30 := by
  rw [Lib.decDigits_length]
  by_cases hc : Lib.nDigits n ≤ 30
  · exact hc
  · exfalso
    by_cases h0 : n = 0
    · subst h0; rw [Lib.nDigits_small (by omega)] at hc; omega
    · have h1 := nDigits_pow (n := n) (by omega)
      have h2 : 10 ^ 30 ≤ 10 ^ (Lib.nDigits n - 1) := Nat.pow_le_pow_right (by omega) (by omega)
      have h3 : (10 : Nat) ^ 30 = 1000000000000000000000000000000 := by decide
      omega
theorem itoa_size {n : Int} (hn : -9223372036854775808 ≤ n ∧ n ≤ 9223372036854775807) : ByteArray.size ⟨(Lib.itoa n).toArray⟩ ≤ maxLen := by
  show (Lib.itoa n).toArray.size ≤ maxLen
  rw [List.size_toArray]
  unfold Lib.itoa maxLen
  split
  · have := Lib.decDigits_length n.natAbs
    have h2 := dec_len19 n.natAbs (by omega)
    simp; omega
  · have h2 := dec_len19 n.toNat (by omega)
    omega
set_option maxHeartbeats 800000 in
theorem i_numeralOf (n : Int) (w : World) (hn : -9223372036854775808 ≤ n ∧ n ≤ 9223372036854775807) (ht : Tab w) :
    Calls Tryd.prog 19 #[.int .i64 n] w fun e w' => e = strOk (numeralO n) ∧ Below w.heap.size w w' := by
  have hsz := itoa_size hn
  have HT := Lib.hid ht
  by_cases h0 : n < 0
  · have H := Lib.hid (strOk_none (numeralO_neg h0))
    have t1 := itoa_neg h0
    go_enter Tryd.func19, Tryd.ntmps19
    go_wp2_with (first | (go_at_call 59; refine (Tryd.strconv_Itoa n hn.1 hn.2 _ HT.out).mono ?_; rintro e w1 ⟨rfl, k, os, rfl⟩) | (go_at_call 25; refine (i_numeralOk _ _ hsz).mono ?_; rintro e w' ⟨rfl, rfl⟩))
    go_ret2
    exact ⟨H.out, Go.Lib.below_grow _ _ (Nat.le_refl _) _ _⟩
  · have e1 := itoa_pos (n := n) (by omega)
    by_cases h9 : n < 1000000000
    · have H := Lib.hid (strOk_some (numeralO_ok (by omega) h9) e1)
      have t1 : numOkS ⟨(Lib.itoa n).toArray⟩ = true := by rw [e1]; exact decS_num (by omega) h9
      clear e1
      go_enter Tryd.func19, Tryd.ntmps19
      go_wp2_with (first | (go_at_call 59; refine (Tryd.strconv_Itoa n hn.1 hn.2 _ HT.out).mono ?_; rintro e w1 ⟨rfl, k, os, rfl⟩) | (go_at_call 25; refine (i_numeralOk _ _ hsz).mono ?_; rintro e w' ⟨rfl, rfl⟩))
      go_ret2
      exact ⟨H.out, Go.Lib.below_grow _ _ (Nat.le_refl _) _ _⟩
    · have H := Lib.hid (strOk_none (numeralO_big (n := n) (by omega)))
      have t1 : numOkS ⟨(Lib.itoa n).toArray⟩ = false := by rw [e1]; exact decS_big (by omega)
      clear e1
      go_enter Tryd.func19, Tryd.ntmps19
      go_wp2_with (first | (go_at_call 59; refine (Tryd.strconv_Itoa n hn.1 hn.2 _ HT.out).mono ?_; rintro e w1 ⟨rfl, k, os, rfl⟩) | (go_at_call 25; refine (i_numeralOk _ _ hsz).mono ?_; rintro e w' ⟨rfl, rfl⟩))
      go_ret2
      exact ⟨H.out, Go.Lib.below_grow _ _ (Nat.le_refl _) _ _⟩
set_option maxHeartbeats 800000 in
theorem s_numeralOf (n : Int) (w : World) (hn : -9223372036854775808 ≤ n ∧ n ≤ 9223372036854775807) :
    Calls Tryd.prog 24 #[.int .i64 n] w fun e w' => e = strOk (numeralO n) ∧ Below w.heap.size w w' := by
  by_cases h0 : n < 0
  · have H := Lib.hid (strOk_none (numeralO_neg h0))
    go_enter Tryd.func24, Tryd.ntmps24
    go_wp2
    go_ret2
    exact ⟨H.out, Below.refl _ _⟩
  · have hsz : ByteArray.size ⟨(Lib.decDigits n.toNat).toArray⟩ ≤ maxLen := by
      have := itoa_size hn
      rwa [show Lib.itoa n = Lib.decDigits n.toNat by unfold Lib.itoa; rw [if_neg h0]] at this
    by_cases h9 : n < 1000000000
    · have H := Lib.hid (strOk_some (numeralO_ok (by omega) h9) rfl)
      have t1 : numOkS ⟨(Lib.decDigits n.toNat).toArray⟩ = true := decS_num (by omega) h9
      go_enter Tryd.func24, Tryd.ntmps24
      go_wp2_with fail
      refine (s_l1Number _ n _ (Nat.le_refl _) (by omega) hn.2).mono ?_
      rintro e w1 ⟨rfl, b1⟩
      go_wp2_with (go_at_call 58; refine (s_numeralOk _ _ hsz).mono ?_; rintro e w' ⟨rfl, rfl⟩)
      refine (s_l1Number _ n _ (Nat.le_refl _) (by omega) hn.2).mono ?_
      rintro e w2 ⟨rfl, b2⟩
      go_wp2_with fail
      go_ret2
      exact ⟨H.out, b1.trans (b2.mono b1.size)⟩
    · have H := Lib.hid (strOk_none (numeralO_big (n := n) (by omega)))
      have t1 : numOkS ⟨(Lib.decDigits n.toNat).toArray⟩ = false := decS_big (by omega)
      go_enter Tryd.func24, Tryd.ntmps24
      go_wp2_with fail
      refine (s_l1Number _ n _ (Nat.le_refl _) (by omega) hn.2).mono ?_
      rintro e w1 ⟨rfl, b1⟩
      go_wp2_with (go_at_call 58; refine (s_numeralOk _ _ hsz).mono ?_; rintro e w' ⟨rfl, rfl⟩)
      go_ret2
      exact ⟨H.out, b1⟩
end Go.Proofs.YthddidjdgbdlbaaDoor
