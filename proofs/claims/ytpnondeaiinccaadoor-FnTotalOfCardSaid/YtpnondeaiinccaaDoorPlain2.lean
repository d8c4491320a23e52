/- Plain mathematics of numerals, second part: digits at places, sums of digits, what they leave divided by 9 and by 11. -/
import Derived.Test.YtpnondeaiinccaaDoorPlain
namespace Go.Proofs.YtpnondeaiinccaaDoor
open Go.RowKit

theorem numOkS_size {s : ByteArray} (h : numOkS s = true) : 1 ≤ s.size ∧ s.size ≤ 9 := by
  simp only [numOkS, numOk, Bool.and_eq_true, decide_eq_true_eq, size_toList] at h
  exact h.1.2
theorem numOkS_digit {s : ByteArray} (h : numOkS s = true) (j : Nat) (hj : j < s.size) : 48 ≤ s[j].toNat ∧ s[j].toNat ≤ 57 := by
  simp only [numOkS, numOk, Bool.and_eq_true] at h
  have := (List.all_eq_true.1 h.1.1) s[j] (List.mem_of_getElem? (toList_get s j hj))
  exact (isD_iff _).1 this

theorem dAtS_lt {s : ByteArray} {k : Nat} (h : k < s.size) : dAtS s k = s[s.size - 1 - k].toNat - 48 := by
  have e : s.data.toList.length = s.size := size_toList s
  have g : s.data.toList[s.size - 1 - k]? = some s[s.size - 1 - k] := toList_get s _ (by omega)
  have e2 : dAtS s k = if k < s.data.toList.length then dv (s.data.toList.getD (s.data.toList.length - 1 - k) 48) else 0 := rfl
  rw [e2, e, if_pos h, List.getD_eq_getElem?_getD, g]
  rfl
theorem dAtS_ge {s : ByteArray} {k : Nat} (h : s.size ≤ k) : dAtS s k = 0 := by
  have e : s.data.toList.length = s.size := size_toList s
  have e2 : dAtS s k = if k < s.data.toList.length then dv (s.data.toList.getD (s.data.toList.length - 1 - k) 48) else 0 := rfl
  rw [e2, e, if_neg (by omega)]
theorem dAtS_le {s : ByteArray} (hn : numOkS s = true) (k : Nat) : dAtS s k ≤ 9 := by
  by_cases h : k < s.size
  · rw [dAtS_lt h]; have := numOkS_digit hn (s.size - 1 - k) (by omega); omega
  · rw [dAtS_ge (by omega)]; omega

/-- the answer of DigitAt -/
def digitAtI (s : ByteArray) (p : Int) : Int := if numOkS s = true ∧ 0 ≤ p then (dAtS s p.toNat : Int) else -1
theorem digitAtI_bad {s : ByteArray} {p : Int} (h : numOkS s = false) : digitAtI s p = -1 := by simp [digitAtI, h]
theorem digitAtI_neg {s : ByteArray} {p : Int} (h : p < 0) : digitAtI s p = -1 := by
  unfold digitAtI; rw [if_neg]; omega
theorem digitAtI_ok {s : ByteArray} {p : Int} (h : numOkS s = true) (h0 : 0 ≤ p) : digitAtI s p = (dAtS s p.toNat : Int) := by
  unfold digitAtI; rw [if_pos ⟨h, h0⟩]

/-! ### Sums -/
def sumTo (f : Nat → Nat) : Nat → Nat
  | 0 => 0
  | k + 1 => sumTo f k + f k
theorem sumTo_front (f : Nat → Nat) (n : Nat) : sumTo f (n + 1) = f 0 + sumTo (fun j => f (j + 1)) n := by
  induction n with
  | zero => simp [sumTo]
  | succ n ih => rw [sumTo, ih, sumTo]; omega
theorem sumTo_congr {f g : Nat → Nat} {n : Nat} (h : ∀ j, j < n → f j = g j) : sumTo f n = sumTo g n := by
  induction n with
  | zero => rfl
  | succ n ih => rw [sumTo, sumTo, ih (fun j hj => h j (by omega)), h n (by omega)]
theorem sumTo_rev (f : Nat → Nat) (n : Nat) : sumTo (fun j => f (n - 1 - j)) n = sumTo f n := by
  induction n generalizing f with
  | zero => rfl
  | succ n ih =>
    rw [sumTo_front]
    have e : sumTo (fun j => f (n + 1 - 1 - (j + 1))) n = sumTo f n := by
      rw [← ih f]; exact sumTo_congr fun j hj => by congr 1; omega
    rw [e, sumTo]; simp; omega
theorem sumTo_le {f : Nat → Nat} {n m : Nat} (h : ∀ j, j < n → f j ≤ m) : sumTo f n ≤ n * m := by
  induction n with
  | zero => simp [sumTo]
  | succ n ih =>
    have := ih fun j hj => h j (by omega)
    have := h n (by omega)
    rw [sumTo, Nat.add_mul]; omega

def lAtS (s : ByteArray) (j : Nat) : Nat := dv (s.data.toList.getD j 48)
theorem lAtS_lt {s : ByteArray} {j : Nat} (h : j < s.size) : lAtS s j = s[j].toNat - 48 := by
  unfold lAtS; rw [List.getD_eq_getElem?_getD, toList_get s j h]; rfl
def dsumS (s : ByteArray) : Nat := sumTo (dAtS s) s.size
theorem dsumS_left (s : ByteArray) : sumTo (lAtS s) s.size = dsumS s := by
  unfold dsumS
  rw [← sumTo_rev (lAtS s)]
  exact sumTo_congr fun j hj => by rw [dAtS_lt hj, lAtS_lt (by omega)]
theorem dsumS_le {s : ByteArray} (hn : numOkS s = true) : dsumS s ≤ 81 := by
  have h := sumTo_le (f := dAtS s) (n := s.size) (m := 9) fun j _ => dAtS_le hn j
  have := numOkS_size hn
  unfold dsumS; omega
theorem dsum_to_le {s : ByteArray} (hn : numOkS s = true) (k : Nat) : sumTo (dAtS s) k ≤ 9 * k := by
  have h := sumTo_le (f := dAtS s) (n := k) (m := 9) fun j _ => dAtS_le hn j
  omega
theorem lsum_to_le {s : ByteArray} (hn : numOkS s = true) (k : Nat) (hk : k ≤ s.size) : sumTo (lAtS s) k ≤ 9 * k := by
  have h := sumTo_le (f := lAtS s) (n := k) (m := 9) fun j hj => by
    rw [lAtS_lt (by omega)]; have := numOkS_digit hn j (by omega); omega
  omega
/-- the answer of DigitSum -/
def dsumI (s : ByteArray) : Int := if numOkS s = true then (dsumS s : Int) else -1
theorem dsumI_ok {s : ByteArray} (h : numOkS s = true) : dsumI s = (dsumS s : Int) := by simp [dsumI, h]
theorem dsumI_bad {s : ByteArray} (h : numOkS s = false) : dsumI s = -1 := by simp [dsumI, h]
theorem dsumI_le (s : ByteArray) : -1 ≤ dsumI s ∧ dsumI s ≤ 81 := by
  cases h : numOkS s
  · rw [dsumI_bad h]; omega
  · rw [dsumI_ok h]; have := dsumS_le h; omega
/-- the answer of NineOf -/
def nineI (s : ByteArray) : Int := if numOkS s = true then ((dsumS s % 9 : Nat) : Int) else -1
theorem nineI_ok {s : ByteArray} (h : numOkS s = true) : nineI s = ((dsumS s % 9 : Nat) : Int) := by simp [nineI, h]
theorem nineI_bad {s : ByteArray} (h : numOkS s = false) : nineI s = -1 := by simp [nineI, h]

/-! ### Sums with signs that take turns -/
def altTo (f : Nat → Nat) : Nat → Int
  | 0 => 0
  | k + 1 => if k % 2 = 0 then altTo f k + (f k : Int) else altTo f k - (f k : Int)
theorem altTo_even {f : Nat → Nat} {k : Nat} (h : k % 2 = 0) : altTo f (k + 1) = altTo f k + (f k : Int) := by rw [altTo, if_pos h]
theorem altTo_odd {f : Nat → Nat} {k : Nat} (h : ¬ k % 2 = 0) : altTo f (k + 1) = altTo f k - (f k : Int) := by rw [altTo, if_neg h]
theorem altTo_le {s : ByteArray} (hn : numOkS s = true) (k : Nat) : -(9 * k : Int) ≤ altTo (dAtS s) k ∧ altTo (dAtS s) k ≤ 9 * k := by
  induction k with
  | zero => simp [altTo]
  | succ k ih =>
    have := dAtS_le hn k
    rw [altTo]; split <;> omega
/-- the answer of ElevenOf -/
def elevenI (s : ByteArray) : Int := if numOkS s = true then altTo (dAtS s) s.size % 11 else -1
theorem elevenI_ok {s : ByteArray} (h : numOkS s = true) : elevenI s = altTo (dAtS s) s.size % 11 := by simp [elevenI, h]
theorem elevenI_bad {s : ByteArray} (h : numOkS s = false) : elevenI s = -1 := by simp [elevenI, h]
end Go.Proofs.YtpnondeaiinccaaDoor
