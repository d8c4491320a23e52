/- Plain laws of numerals, continued: a numeral without its last digit; texts of numbers. -/
import Derived.Test.YthddidjdgbdlbaaDoorLaw2
import Derived.Test.YthddidjdgbdlbaaDoorNumeral
namespace Go.Proofs.YthddidjdgbdlbaaDoor
open Go.RowKit
set_option linter.unusedVariables false
theorem num_cut {s : ByteArray} (h : numOkS s = true) (h1 : s.size ≠ 1) : numOkS (s.extract 0 (s.size - 1)) = true := by
  have hz := numOkS_size h
  have hl : s.data.toList.length = s.size := size_toList s
  have e : (s.extract 0 (s.size - 1)).data.toList = s.data.toList.take (s.size - 1) := by
    rw [ByteArray.data_extract, Array.toList_extract]
    show (List.drop 0 s.data.toList).take (s.size - 1 - 0) = _
    simp
  unfold numOkS numOk at h ⊢
  simp only [Bool.and_eq_true, Bool.or_eq_true, Bool.not_eq_true', decide_eq_true_eq] at h
  obtain ⟨⟨ha, _, _⟩, hh⟩ := h
  rw [e]
  have hlen : (s.data.toList.take (s.size - 1)).length = s.size - 1 := by rw [List.length_take]; omega
  have hhd : (s.data.toList.take (s.size - 1)).head? = s.data.toList.head? := by
    match s.data.toList, hl with
    | [], hl => simp at hl; omega
    | b :: r, hl =>
      have : s.size - 1 = (s.size - 2) + 1 := by omega
      rw [this]; rfl
  rcases hh with hh | hh
  · rw [hhd, hh, hlen]
    have : (s.data.toList.take (s.size - 1)).all isD = true := by
      rw [List.all_eq_true] at ha ⊢
      exact fun x hx => ha x (List.mem_of_mem_take hx)
    rw [this]; simp; omega
  · rw [hl] at hh; exact absurd hh h1
theorem numeralO_val {s : ByteArray} (h : numOkS s = true) : numeralO (valI s) = some s := by
  have hb := valI_bd h
  rw [numeralO_ok hb.1 hb.2, valI_ok h, Int.toNat_natCast, decS_of h]
theorem valI_cut {s : ByteArray} (h : numOkS s = true) (h1 : s.size ≠ 1) : valI (s.extract 0 (s.size - 1)) = valI s / 10 := by
  rw [valI_ok (num_cut h h1), valI_ok h, val_cut h]; omega
theorem valI_dec {n : Int} (h0 : 0 ≤ n) (h : n < 1000000000) : valI (decS n.toNat) = n := by
  rw [valI_ok (decS_num h0 h), decS_val]; omega
end Go.Proofs.YthddidjdgbdlbaaDoor
