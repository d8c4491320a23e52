/- Plain laws: a numeral moved to the left; its digits. -/
import Derived.Test.YthddidjdgbdlbaaDoorLaw8
import Derived.Test.YthddidjdgbdlbaaDoorValue
import Derived.Test.YthddidjdgbdlbaaDoorMoved
namespace Go.Proofs.YthddidjdgbdlbaaDoor
open Go.RowKit
set_option linter.unusedVariables false
theorem val_any2 (s : ByteArray) : -1 ≤ valI s ∧ valI s < 1000000000 := by
  by_cases h : numOkS s = true
  · have := valS_lt9 h
    rw [valI_ok h]; omega
  · rw [valI_bad (ne_true h)]; omega
theorem val_any3 {s : ByteArray} (h : numOkS s = true) : 0 ≤ valI s := by rw [valI_ok h]; omega
theorem digit_any (s : ByteArray) (p : Int) : -1 ≤ digitAtI s p ∧ digitAtI s p ≤ 9 := by
  by_cases h : numOkS s = true
  · by_cases h0 : 0 ≤ p
    · rw [digitAtI_ok h h0]; have := dAtS_le h p.toNat; omega
    · rw [digitAtI_neg (by omega)]; omega
  · rw [digitAtI_bad (ne_true h)]; omega
theorem digit_ge {s : ByteArray} {p : Int} (h : ¬ digitAtI s p < 0) : numOkS s = true ∧ 0 ≤ p := by
  by_cases hn : numOkS s = true
  · by_cases h0 : 0 ≤ p
    · exact ⟨hn, h0⟩
    · rw [digitAtI_neg (by omega)] at h; omega
  · rw [digitAtI_bad (ne_true hn)] at h; omega
theorem pow_le9 {k : Nat} (h : k ≤ 9) : 10 ^ k ≤ 1000000000 := by
  have : 10 ^ k ≤ 10 ^ 9 := Nat.pow_le_pow_right (by omega) h
  have e : (10 : Nat) ^ 9 = 1000000000 := by decide
  omega
theorem val_noughts (l : List UInt8) : ∀ k, val (l ++ List.replicate k 48) = val l * 10 ^ k
  | 0 => by simp
  | k + 1 => by
    rw [List.replicate_succ', ← List.append_assoc, val_append, val_noughts l k, Nat.pow_succ]
    have e : dv 48 = 0 := rfl
    have e2 : val l * (10 ^ k * 10) = val l * 10 ^ k * 10 := (Nat.mul_assoc _ _ _).symm
    omega
theorem valS_addZ (s : ByteArray) (k : Nat) : valS (addZ s k) = valS s * 10 ^ k := by
  have e : (addZ s k).data.toList = s.data.toList ++ List.replicate k 48 := by simp [addZ]
  unfold valS
  rw [e, val_noughts]
theorem moved_facts {s x : ByteArray} {p : Int} (h : movedO s p = some x) : numOkS s = true ∧ 0 ≤ p ∧ numOkS x = true ∧ valS x = valS s * 10 ^ p.toNat := by
  unfold movedO at h
  split at h
  · rename_i hc
    split at h
    · rename_i hz
      obtain rfl := Option.some.inj h
      have e : valS s = 0 := by rw [hz]; rfl
      exact ⟨hc.1, hc.2, hc.1, by rw [e, Nat.zero_mul]⟩
    · rename_i hz
      split at h
      · rename_i h9
        obtain rfl := Option.some.inj h
        exact ⟨hc.1, hc.2, by rw [addZ_ok hc.1 hz]; simp; exact h9, valS_addZ _ _⟩
      · cases h
  · cases h
theorem moved_step {s x : ByteArray} {p : Int} (h : movedO s p = some x) {k : Nat} (hk : k ≤ p.toNat) : valS s * 10 ^ k < 1000000000 := by
  obtain ⟨_, _, hx, hv⟩ := moved_facts h
  have h1 := valS_lt9 hx
  have h2 : 10 ^ k ≤ 10 ^ p.toNat := Nat.pow_le_pow_right (by omega) hk
  have h3 : valS s * 10 ^ k ≤ valS s * 10 ^ p.toNat := Nat.mul_le_mul_left _ h2
  omega
end Go.Proofs.YthddidjdgbdlbaaDoor
