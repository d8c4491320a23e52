/- Plain laws of the order of numerals: it is the order of the numbers that they tell. -/
import Derived.Test.YtpnondeaiinccaaDoorLaw1
import Derived.Test.YtpnondeaiinccaaDoorOrder
namespace Go.Proofs.YtpnondeaiinccaaDoor
open Go.RowKit
open Go.Lib (decDigits nDigits)
set_option linter.unusedVariables false
theorem val_lt10 : ∀ {l : List UInt8}, l.all isD = true → val l < 10 ^ l.length
  | [], _ => by simp [val]
  | b :: l, h => by
    simp only [List.all_cons, Bool.and_eq_true] at h
    have ih := val_lt10 h.2
    have hb := dv_le h.1
    have h2 : dv b * 10 ^ l.length ≤ 9 * 10 ^ l.length := Nat.mul_le_mul_right _ hb
    rw [val_cons, List.length_cons, Nat.pow_succ]; omega
theorem val_less {a b : UInt8} {l m : List UInt8} (hlen : l.length = m.length) (hl : l.all isD = true) (ha : isD a = true) (hb : isD b = true) (h : a.toNat < b.toNat) : val (a :: l) < val (b :: m) := by
  have h1 := val_lt10 hl
  have hd : dv a + 1 ≤ dv b := by rw [isD_iff] at ha hb; unfold dv; omega
  have h2 : (dv a + 1) * 10 ^ l.length ≤ dv b * 10 ^ l.length := Nat.mul_le_mul_right _ hd
  rw [Nat.add_mul] at h2
  rw [val_cons, val_cons, ← hlen]; omega
theorem cmp_val : ∀ (l m : List UInt8), l.length = m.length → l.all isD = true → m.all isD = true → Lib.compareBytes l m = if val l < val m then -1 else if val m < val l then 1 else 0
  | [], [], _, _, _ => by simp [Lib.compareBytes, val]
  | [], _ :: _, h, _, _ => by simp at h
  | _ :: _, [], h, _, _ => by simp at h
  | a :: l, b :: m, h, hl, hm => by
    simp only [List.all_cons, Bool.and_eq_true] at hl hm
    have hlen : l.length = m.length := by simpa using h
    rcases Nat.lt_trichotomy a.toNat b.toNat with hc | hc | hc
    · have hv := val_less hlen hl.2 hl.1 hm.1 hc
      have h1 : a < b := UInt8.lt_iff_toNat_lt.2 hc
      rw [if_pos hv]
      unfold Lib.compareBytes
      simp [h1]
    · have e : a = b := UInt8.toNat_inj.1 hc
      subst e
      have ih := cmp_val l m hlen hl.2 hm.2
      have e : Lib.compareBytes (a :: l) (a :: m) = Lib.compareBytes l m := by
        rw [Lib.compareBytes]
        simp
      rw [e, ih, val_cons, val_cons, ← hlen]
      by_cases h1 : val l < val m
      · rw [if_pos h1, if_pos (by omega)]
      · by_cases h2 : val m < val l
        · rw [if_neg h1, if_pos h2, if_neg (by omega), if_pos (by omega)]
        · rw [if_neg h1, if_neg h2, if_neg (by omega), if_neg (by omega)]
    · have hv := val_less hlen.symm hm.2 hm.1 hl.1 hc
      have h1 : b < a := UInt8.lt_iff_toNat_lt.2 hc
      have h2 : ¬ a < b := fun x => by have := UInt8.lt_iff_toNat_lt.1 x; omega
      rw [if_neg (by omega), if_pos hv]
      unfold Lib.compareBytes
      simp [h1, h2]
theorem num_all {s : ByteArray} (h : numOkS s = true) : s.data.toList.all isD = true := by
  unfold numOkS numOk at h
  simp only [Bool.and_eq_true] at h
  exact h.1.1
theorem num_low {s : ByteArray} (h : numOkS s = true) (h2 : 2 ≤ s.size) : 10 ^ (s.size - 1) ≤ valS s := by
  have e : decDigits (valS s) = s.data.toList := dec_of_num h
  have hl : nDigits (valS s) = s.size := by rw [← Lib.decDigits_length, e, size_toList]
  have hp : 1 ≤ valS s := by
    rcases Nat.eq_zero_or_pos (valS s) with h0 | h0
    · rw [h0, Lib.nDigits_small (by omega)] at hl; omega
    · exact h0
  have := nDigits_pow hp
  rw [hl] at this
  exact this
theorem size_less {s t : ByteArray} (hs : numOkS s = true) (ht : numOkS t = true) (h : s.size < t.size) : valS s < valS t := by
  have h0 := numOkS_size hs
  have h1 := valS_lt hs
  have h2 := num_low ht (by omega)
  have h3 : 10 ^ s.size ≤ 10 ^ (t.size - 1) := Nat.pow_le_pow_right (by omega) (by omega)
  omega
theorem orderI_val {s t : ByteArray} (hs : numOkS s = true) (ht : numOkS t = true) : orderI s t = if valS s < valS t then -1 else if valS t < valS s then 1 else 0 := by
  by_cases h1 : s.size < t.size
  · rw [orderI_lt hs ht h1, if_pos (size_less hs ht h1)]
  · by_cases h2 : t.size < s.size
    · have := size_less ht hs h2
      rw [orderI_gt hs ht h2, if_neg (by omega), if_pos this]
    · have he : s.size = t.size := by omega
      rw [orderI_eq hs ht he]
      exact cmp_val _ _ (by rw [size_toList, size_toList]; exact he) (num_all hs) (num_all ht)
theorem orderI_ok {s t : ByteArray} (h : orderI s t ≠ -2) : numOkS s = true ∧ numOkS t = true := by
  by_cases hs : numOkS s = true
  · by_cases ht : numOkS t = true
    · exact ⟨hs, ht⟩
    · exact absurd (orderI_bad2 (ne_true ht)) h
  · exact absurd (orderI_bad1 (ne_true hs)) h
theorem order_facts {s t : ByteArray} (h : orderI s t ≠ -2) :
    (orderI s t < 0 ↔ valS s < valS t) ∧ (0 < orderI s t ↔ valS t < valS s) ∧ orderI t s = -orderI s t ∧ -1 ≤ orderI s t ∧ orderI s t ≤ 1 := by
  obtain ⟨hs, ht⟩ := orderI_ok h
  rw [orderI_val hs ht, orderI_val ht hs]
  by_cases h1 : valS s < valS t
  · rw [if_pos h1, if_neg (by omega), if_pos h1]; omega
  · by_cases h2 : valS t < valS s
    · rw [if_neg h1, if_pos h2, if_pos h2]; omega
    · rw [if_neg h1, if_neg h2, if_neg h2, if_neg h1]; omega
theorem order_ge {s t : ByteArray} (h : 0 ≤ orderI s t) : (numOkS s = true ∧ numOkS t = true) ∧ t.size ≤ s.size ∧ valS t ≤ valS s := by
  have h0 : orderI s t ≠ -2 := by omega
  obtain ⟨hs, ht⟩ := orderI_ok h0
  have hf := order_facts h0
  refine ⟨⟨hs, ht⟩, ?_, by omega⟩
  by_cases hc : s.size < t.size
  · have := size_less hs ht hc; omega
  · omega
theorem order_of_val {s t : ByteArray} (hs : numOkS s = true) (ht : numOkS t = true) (h : valS t ≤ valS s) : 0 ≤ orderI s t ∧ orderI s t ≤ 1 := by
  rw [orderI_val hs ht, if_neg (by omega)]
  split <;> omega
end Go.Proofs.YtpnondeaiinccaaDoor
