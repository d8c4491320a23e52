/- Plain mathematics of the numbers that numerals tell: numerals and numbers belong to each other one to one. -/
import Derived.Test.YtpnondeaiinccaaDoorPlain2
import Derived.Lib.ItoaNum
namespace Go.Proofs.YtpnondeaiinccaaDoor
open Go.RowKit
open Go.Lib (decDigits nDigits)

def step (n : Nat) (b : UInt8) : Nat := 10 * n + dv b
theorem val_nil : val [] = 0 := rfl
theorem val_append (l : List UInt8) (b : UInt8) : val (l ++ [b]) = 10 * val l + dv b := by unfold val; rw [List.foldl_append]; rfl
theorem val_eq (l : List UInt8) : val l = l.foldl step 0 := rfl

/-! ### Sums of digits times powers of ten -/
def numTo (f : Nat → Nat) : Nat → Nat
  | 0 => 0
  | k + 1 => numTo f k + f k * 10 ^ k
theorem numTo_front (f : Nat → Nat) (n : Nat) : numTo f (n + 1) = f 0 + 10 * numTo (fun j => f (j + 1)) n := by
  induction n with
  | zero => simp [numTo]
  | succ n ih =>
    rw [numTo, ih, numTo, Nat.mul_add, Nat.pow_succ]
    have : f (n + 1) * (10 ^ n * 10) = 10 * (f (n + 1) * 10 ^ n) := by rw [Nat.mul_comm (10 ^ n) 10, Nat.mul_left_comm]
    rw [this]; omega
theorem numTo_congr {f g : Nat → Nat} {n : Nat} (h : ∀ j, j < n → f j = g j) : numTo f n = numTo g n := by
  induction n with
  | zero => rfl
  | succ n ih => rw [numTo, numTo, ih (fun j hj => h j (by omega)), h n (by omega)]
theorem numTo_lt {f : Nat → Nat} {n : Nat} (h : ∀ j, j < n → f j ≤ 9) : numTo f n < 10 ^ n := by
  induction n with
  | zero => simp [numTo]
  | succ n ih =>
    have h1 := ih fun j hj => h j (by omega)
    have h2 := h n (by omega)
    have h3 : f n * 10 ^ n ≤ 9 * 10 ^ n := Nat.mul_le_mul_right _ h2
    rw [numTo, Nat.pow_succ]; omega
theorem numTo_more {f : Nat → Nat} {n : Nat} (h : ∀ j, n ≤ j → f j = 0) : ∀ m, n ≤ m → numTo f m = numTo f n := by
  intro m hm
  induction m with
  | zero => have : n = 0 := by omega
            subst this; rfl
  | succ m ih =>
    by_cases e : n = m + 1
    · rw [e]
    · rw [numTo, ih (by omega), h m (by omega)]; simp
def leftTo (f : Nat → Nat) : Nat → Nat
  | 0 => 0
  | k + 1 => 10 * leftTo f k + f k
theorem leftTo_eq (f : Nat → Nat) (n : Nat) : leftTo f n = numTo (fun j => f (n - 1 - j)) n := by
  induction n with
  | zero => rfl
  | succ n ih =>
    rw [numTo_front, leftTo, ih]
    have : numTo (fun j => f (n + 1 - 1 - (j + 1))) n = numTo (fun j => f (n - 1 - j)) n := numTo_congr fun j _ => by congr 1; omega
    rw [this]; simp; omega
theorem leftTo_take (s : ByteArray) (k : Nat) (h : k ≤ s.size) : leftTo (lAtS s) k = val (s.data.toList.take k) := by
  induction k with
  | zero => rfl
  | succ k ih =>
    rw [leftTo, ih (by omega), List.take_add_one, toList_get s k (by omega)]
    rw [show s.data.toList.take k ++ (some s[k]).toList = s.data.toList.take k ++ [s[k]] from rfl, val_append]
    unfold lAtS
    rw [List.getD_eq_getElem?_getD, toList_get s k (by omega)]; rfl
theorem valS_left (s : ByteArray) : leftTo (lAtS s) s.size = valS s := by
  rw [leftTo_take s _ (Nat.le_refl _), List.take_of_length_le (by simp)]; rfl
theorem valS_num (s : ByteArray) : valS s = numTo (dAtS s) s.size := by
  rw [← valS_left, leftTo_eq]
  exact numTo_congr fun j hj => by rw [dAtS_lt hj, lAtS_lt (by omega)]
theorem valS_num_more (s : ByteArray) (m : Nat) (h : s.size ≤ m) : numTo (dAtS s) m = valS s := by
  rw [valS_num]; exact numTo_more (fun j hj => dAtS_ge hj) m h
theorem valS_lt {s : ByteArray} (h : numOkS s = true) : valS s < 10 ^ s.size := by rw [valS_num]; exact numTo_lt fun j _ => dAtS_le h j
theorem valS_lt9 {s : ByteArray} (h : numOkS s = true) : valS s < 1000000000 := by
  have h1 := valS_lt h
  have h2 := numOkS_size h
  have h3 : 10 ^ s.size ≤ 10 ^ 9 := Nat.pow_le_pow_right (by omega) h2.2
  have h4 : (10 : Nat) ^ 9 = 1000000000 := by decide
  omega

/-! ### Decimal digits -/
theorem dv_ofNat {d : Nat} (h : d ≤ 9) : dv (UInt8.ofNat (48 + d)) = d := by
  have e : (UInt8.ofNat (48 + d)).toNat = 48 + d := by simp; omega
  unfold dv; rw [e]; omega
theorem isD_ofNat {d : Nat} (h : d ≤ 9) : isD (UInt8.ofNat (48 + d)) = true := by
  have e : (UInt8.ofNat (48 + d)).toNat = 48 + d := by simp; omega
  rw [isD_iff, e]; omega
theorem ofNat_dv {b : UInt8} (h : isD b = true) : UInt8.ofNat (48 + dv b) = b := by
  rw [isD_iff] at h
  apply UInt8.toNat_inj.1
  unfold dv
  simp; omega
theorem dv_le {b : UInt8} (h : isD b = true) : dv b ≤ 9 := by rw [isD_iff] at h; unfold dv; omega
theorem dec_lt {n : Nat} (h : n < 10) : decDigits n = [UInt8.ofNat (48 + n)] := Lib.decDigits_one h
theorem dec_ge {n : Nat} (h : ¬ n < 10) : decDigits n = decDigits (n / 10) ++ [UInt8.ofNat (48 + n % 10)] := by rw [decDigits, dif_neg h]
theorem dec_step {v d : Nat} (hv : 0 < v) (hd : d ≤ 9) : decDigits (10 * v + d) = decDigits v ++ [UInt8.ofNat (48 + d)] := by
  rw [dec_ge (by omega), show (10 * v + d) / 10 = v by omega, show (10 * v + d) % 10 = d by omega]
theorem dec_val (n : Nat) : val (decDigits n) = n := by
  induction n using Nat.strongRecOn with
  | _ n ih =>
    by_cases h : n < 10
    · rw [dec_lt h]
      show 10 * 0 + dv _ = n
      rw [dv_ofNat (by omega)]; omega
    · rw [dec_ge h, val_append, ih (n / 10) (by omega), dv_ofNat (by omega)]; omega
theorem dec_all (n : Nat) : (decDigits n).all isD = true := by
  induction n using Nat.strongRecOn with
  | _ n ih =>
    by_cases h : n < 10
    · rw [dec_lt h, List.all_cons, isD_ofNat (show n ≤ 9 by omega)]; rfl
    · rw [dec_ge h, List.all_append, ih (n / 10) (by omega), List.all_cons, isD_ofNat (show n % 10 ≤ 9 by omega)]; rfl
theorem dec_head {n : Nat} (h : 1 ≤ n) : ∃ b, (decDigits n).head? = some b ∧ b ≠ 48 := by
  induction n using Nat.strongRecOn with
  | _ n ih =>
    by_cases hl : n < 10
    · rw [dec_lt hl]
      refine ⟨_, rfl, fun e => ?_⟩
      have := congrArg dv e
      rw [dv_ofNat (by omega)] at this
      have e2 : dv 48 = 0 := rfl
      omega
    · obtain ⟨b, hb, hn⟩ := ih (n / 10) (by omega) (by omega)
      refine ⟨b, ?_, hn⟩
      rw [dec_ge hl, List.head?_append, hb]; rfl
theorem nDigits_pow {n : Nat} (h : 1 ≤ n) : 10 ^ (nDigits n - 1) ≤ n := by
  induction n using Nat.strongRecOn with
  | _ n ih =>
    by_cases hl : n < 10
    · rw [Lib.nDigits_small hl]; simpa using h
    · have h1 := ih (n / 10) (by omega) (by omega)
      have h2 := Lib.nDigits_pos (n / 10)
      rw [Lib.nDigits_big hl, show nDigits (n / 10) + 1 - 1 = (nDigits (n / 10) - 1) + 1 by omega, Nat.pow_succ]
      omega
theorem dec_len9 (n : Nat) : (decDigits n).length ≤ 9 ↔ n < 1000000000 := by
  rw [Lib.decDigits_length]
  have p9 : (10 : Nat) ^ 9 = 1000000000 := by decide
  constructor
  · intro h
    have h1 := Lib.lt_pow_nDigits n
    have h2 : 10 ^ nDigits n ≤ 10 ^ 9 := Nat.pow_le_pow_right (by omega) h
    omega
  · intro h
    by_cases h0 : n = 0
    · subst h0; rw [Lib.nDigits_small (by omega)]; omega
    · by_cases hc : nDigits n ≤ 9
      · exact hc
      · exfalso
        have h1 := nDigits_pow (n := n) (by omega)
        have h2 : 10 ^ 9 ≤ 10 ^ (nDigits n - 1) := Nat.pow_le_pow_right (by omega) (by omega)
        omega
theorem dec_pos (n : Nat) : 1 ≤ (decDigits n).length := by rw [Lib.decDigits_length]; exact Lib.nDigits_pos n
theorem dec_numOk (n : Nat) : numOk (decDigits n) = decide (n < 1000000000) := by
  have h1 : decide (1 ≤ (decDigits n).length) = true := by simp; have := dec_pos n; omega
  have h9 : decide ((decDigits n).length ≤ 9) = decide (n < 1000000000) := by rw [Bool.eq_iff_iff]; simp [dec_len9]
  have hh : (!((decDigits n).head? == some 48) || decide ((decDigits n).length = 1)) = true := by
    by_cases h0 : n = 0
    · subst h0; rw [dec_lt (by omega)]; rfl
    · obtain ⟨b, hb, hne⟩ := dec_head (n := n) (by omega)
      rw [hb]; simp [hne]
  unfold numOk
  rw [dec_all, h1, h9, hh]; simp

/-! ### Noughts ahead -/
def trimZ (l : List UInt8) : List UInt8 := let m := l.dropWhile (· == 48); if m = [] then [48] else m
theorem fold_dec : ∀ (l : List UInt8), l.all isD = true → ∀ v, 0 < v → decDigits (l.foldl step v) = decDigits v ++ l
  | [], _, v, _ => by simp
  | b :: l, h, v, hv => by
    simp only [List.all_cons, Bool.and_eq_true] at h
    rw [List.foldl_cons, fold_dec l h.2 (step v b) (by unfold step; omega)]
    unfold step
    rw [dec_step hv (dv_le h.1), ofNat_dv h.1]; simp
theorem fold_pos : ∀ (l : List UInt8) (v : Nat), 0 < v → 0 < l.foldl step v
  | [], _, h => h
  | b :: l, v, h => by rw [List.foldl_cons]; exact fold_pos l _ (by unfold step; omega)
theorem drop_dec : ∀ (l : List UInt8), l.all isD = true → l.dropWhile (· == 48) = if l.foldl step 0 = 0 then [] else decDigits (l.foldl step 0)
  | [], _ => rfl
  | b :: l, h => by
    simp only [List.all_cons, Bool.and_eq_true] at h
    by_cases hb : b = 48
    · subst hb
      have e : step 0 48 = 0 := rfl
      rw [List.foldl_cons, e, List.dropWhile_cons_of_pos (by simp), drop_dec l h.2]
    · have hd : 0 < step 0 b := by
        have h1 := (isD_iff b).1 h.1
        have h2 : b.toNat ≠ 48 := fun e => hb (UInt8.toNat_inj.1 e)
        unfold step dv; omega
      have hp := fold_pos l _ hd
      rw [List.foldl_cons, List.dropWhile_cons_of_neg (by simpa using hb), if_neg (by omega), fold_dec l h.2 _ hd]
      have e : step 0 b = dv b := by unfold step; omega
      rw [e, dec_lt (by have := dv_le h.1; omega), ofNat_dv h.1]; rfl
theorem trimZ_dec {l : List UInt8} (h : l.all isD = true) : trimZ l = decDigits (val l) := by
  have hne : ∀ n, decDigits n ≠ [] := fun n e => by have := dec_pos n; rw [e] at this; simp at this
  unfold trimZ
  rw [drop_dec l h, val_eq]
  by_cases h0 : l.foldl step 0 = 0
  · rw [if_pos h0, h0, dec_lt (by omega)]; rfl
  · rw [if_neg h0, if_neg (hne _)]
/-- a numeral is what its number is told by -/
theorem dec_of_num {l : List UInt8} (h : numOk l = true) : decDigits (val l) = l := by
  unfold numOk at h
  simp only [Bool.and_eq_true, Bool.or_eq_true, Bool.not_eq_true', decide_eq_true_eq] at h
  obtain ⟨⟨ha, h1, h9⟩, hh⟩ := h
  rw [← trimZ_dec ha]
  unfold trimZ
  match l, h1, hh with
  | b :: r, _, hh =>
    by_cases hb : b = 48
    · subst hb
      have hr : r = [] := by
        rcases hh with hh | hh
        · simp at hh
        · simpa using hh
      subst hr
      rfl
    · rw [List.dropWhile_cons_of_neg (by simpa using hb)]; simp
theorem numOk_inj {l m : List UInt8} (hl : numOk l = true) (hm : numOk m = true) (h : val l = val m) : l = m := by
  rw [← dec_of_num hl, ← dec_of_num hm, h]
/-- the text of a number -/
def decS (n : Nat) : ByteArray := ⟨(decDigits n).toArray⟩
theorem decS_list (n : Nat) : (decS n).data.toList = decDigits n := by simp [decS]
theorem decS_ok (n : Nat) : numOkS (decS n) = decide (n < 1000000000) := by unfold numOkS; rw [decS_list]; exact dec_numOk n
theorem decS_val (n : Nat) : valS (decS n) = n := by unfold valS; rw [decS_list]; exact dec_val n
theorem ba_ext {s t : ByteArray} (h : s.data.toList = t.data.toList) : s = t := by
  apply ByteArray.ext
  exact Array.toList_inj.1 h
theorem decS_of {s : ByteArray} (h : numOkS s = true) : decS (valS s) = s := by
  apply ba_ext
  rw [decS_list]
  exact dec_of_num h
theorem numOkS_inj {s t : ByteArray} (hs : numOkS s = true) (ht : numOkS t = true) (h : valS s = valS t) : s = t := by
  rw [← decS_of hs, ← decS_of ht, h]
end Go.Proofs.YtpnondeaiinccaaDoor
