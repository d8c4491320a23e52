/- Plain laws of numerals: nines and elevens, sums of digits, what is left without the last digit. -/
import Derived.Test.YthddidjdgbdlbaaDoorVal
import Derived.Test.YthddidjdgbdlbaaDoorValue
namespace Go.Proofs.YthddidjdgbdlbaaDoor
open Go.RowKit
set_option linter.unusedVariables false
theorem pow9 (k : Nat) : 10 ^ k % 9 = 1 := by
  induction k with
  | zero => rfl
  | succ k ih => rw [Nat.pow_succ]; omega
theorem pow_pos10 (k : Nat) : 1 ≤ 10 ^ k := by
  induction k with
  | zero => simp
  | succ k ih => rw [Nat.pow_succ]; omega
theorem mul_mod9 (a b : Nat) (h : b % 9 = 1) : (a * b) % 9 = a % 9 := by rw [Nat.mul_mod, h, Nat.mul_one, Nat.mod_mod]
theorem sum_num9 (f : Nat → Nat) (n : Nat) : sumTo f n % 9 = numTo f n % 9 := by
  induction n with
  | zero => rfl
  | succ n ih =>
    have h := mul_mod9 (f n) (10 ^ n) (pow9 n)
    rw [sumTo, numTo]; omega
theorem sum_le_num (f : Nat → Nat) (n : Nat) : sumTo f n ≤ numTo f n := by
  induction n with
  | zero => exact Nat.le_refl _
  | succ n ih =>
    have h : f n * 1 ≤ f n * 10 ^ n := Nat.mul_le_mul_left _ (pow_pos10 n)
    rw [sumTo, numTo]; omega
theorem dsum_val (s : ByteArray) : dsumS s % 9 = valS s % 9 ∧ dsumS s ≤ valS s := by
  rw [valS_num]; exact ⟨sum_num9 _ _, sum_le_num _ _⟩
theorem dsumI_val {s : ByteArray} (h : numOkS s = true) : dsumI s ≤ valI s ∧ (valI s - dsumI s) % 9 = 0 := by
  have := dsum_val s
  rw [dsumI_ok h, valI_ok h]; omega
theorem nineI_val {s : ByteArray} (h : numOkS s = true) : nineI s = valI s % 9 := by
  have := dsum_val s
  rw [nineI_ok h, valI_ok h]; omega
theorem pow11 (k : Nat) : ((10 ^ k : Nat) : Int) % 11 = if k % 2 = 0 then 1 else 10 := by
  induction k with
  | zero => rfl
  | succ k ih =>
    rw [Nat.pow_succ]
    by_cases h : k % 2 = 0
    · rw [if_pos h] at ih; rw [if_neg (by omega)]; omega
    · rw [if_neg h] at ih; rw [if_pos (by omega)]; omega
theorem mul_mod11 (a b r : Int) (h : b % 11 = r) : (a * b) % 11 = (a * r) % 11 := by rw [← h, Int.mul_emod, Int.mul_emod a (b % 11), Int.emod_emod]
theorem alt_num11 (f : Nat → Nat) (n : Nat) : altTo f n % 11 = ((numTo f n : Nat) : Int) % 11 := by
  induction n with
  | zero => rfl
  | succ n ih =>
    have h := mul_mod11 (f n : Int) ((10 ^ n : Nat) : Int) _ (pow11 n)
    rw [numTo]
    have e : ((numTo f n + f n * 10 ^ n : Nat) : Int) = (numTo f n : Int) + (f n : Int) * ((10 ^ n : Nat) : Int) := by rw [Int.natCast_add, Int.natCast_mul]
    rw [e]
    by_cases hn : n % 2 = 0
    · rw [if_pos hn] at h
      rw [altTo_even hn]
      omega
    · rw [if_neg hn] at h
      rw [altTo_odd hn]
      omega
theorem elevenI_val {s : ByteArray} (h : numOkS s = true) : elevenI s = valI s % 11 := by
  rw [elevenI_ok h, valI_ok h, valS_num, alt_num11]
theorem valI_bd {s : ByteArray} (h : numOkS s = true) : 0 ≤ valI s ∧ valI s < 1000000000 := by
  have := valS_lt9 h
  rw [valI_ok h]; omega
theorem val_dropLast {l : List UInt8} (h : l.all isD = true) (hne : l ≠ []) : val l.dropLast = val l / 10 := by
  have hv := congrArg val (List.dropLast_concat_getLast hne)
  rw [val_append] at hv
  have := dv_le (List.all_eq_true.1 h _ (List.getLast_mem hne))
  omega
/-- without its last digit a numeral tells a tenth -/
theorem val_cut {s : ByteArray} (h : numOkS s = true) : valS (s.extract 0 (s.size - 1)) = valS s / 10 := by
  have hz := numOkS_size h
  have hl : s.data.toList.length = s.size := size_toList s
  have e : (s.extract 0 (s.size - 1)).data.toList = s.data.toList.take (s.size - 1) := by
    rw [ByteArray.data_extract, Array.toList_extract]
    show (List.drop 0 s.data.toList).take (s.size - 1 - 0) = _
    simp
  have hne : s.data.toList ≠ [] := fun e => by rw [e] at hl; simp at hl; omega
  have ha : s.data.toList.all isD = true := by
    unfold numOkS numOk at h
    simp only [Bool.and_eq_true] at h
    exact h.1.1
  unfold valS
  rw [e, ← val_dropLast ha hne, List.dropLast_eq_take, hl]
end Go.Proofs.YthddidjdgbdlbaaDoor
