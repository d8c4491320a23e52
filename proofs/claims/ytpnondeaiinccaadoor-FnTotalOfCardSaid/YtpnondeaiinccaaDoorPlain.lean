/- Plain mathematics of numerals: what the texts of digits tell; no program occurs here. -/
import Derived.WalkKit
namespace Go.Proofs.YtpnondeaiinccaaDoor
open Go.RowKit

/-! ### Digits and numerals -/
def isD (b : UInt8) : Bool := decide (48 ≤ b.toNat) && decide (b.toNat ≤ 57)
def numOk (l : List UInt8) : Bool := l.all isD && (decide (1 ≤ l.length) && decide (l.length ≤ 9)) && (!(l.head? == some 48) || decide (l.length = 1))
def numOkS (s : ByteArray) : Bool := numOk s.data.toList
def dv (b : UInt8) : Nat := b.toNat - 48
def val (l : List UInt8) : Nat := l.foldl (fun n b => 10 * n + dv b) 0
def valS (s : ByteArray) : Nat := val s.data.toList
def dAt (l : List UInt8) (k : Nat) : Nat := if k < l.length then dv (l.getD (l.length - 1 - k) 48) else 0
def dAtS (s : ByteArray) (k : Nat) : Nat := dAt s.data.toList k

/-- the first k bytes are digits -/
def AllD (s : ByteArray) (k : Nat) : Prop := ∀ j, ∀ h : j < s.size, j < k → isD s[j] = true

theorem isD_iff (b : UInt8) : isD b = true ↔ 48 ≤ b.toNat ∧ b.toNat ≤ 57 := by simp [isD]
theorem isD_of {b : UInt8} (h1 : ¬ ((b.toNat : Int) < 48)) (h2 : ¬ (57 < (b.toNat : Int))) : isD b = true := by rw [isD_iff]; omega
theorem isD_lo {b : UInt8} (h1 : (b.toNat : Int) < 48) : isD b = false := by
  cases h : isD b
  · rfl
  · rw [isD_iff] at h; omega
theorem isD_hi {b : UInt8} (h1 : 57 < (b.toNat : Int)) : isD b = false := by
  cases h : isD b
  · rfl
  · rw [isD_iff] at h; omega

theorem AllD.zero (s : ByteArray) : AllD s 0 := fun j _ hj => by omega
theorem AllD.succ {s : ByteArray} {k : Nat} (h : AllD s k) (hk : k < s.size) (hd : isD s[k] = true) : AllD s (k + 1) := fun j hj hjk => by
  by_cases e : j = k
  · subst e; exact hd
  · exact h j hj (by omega)
theorem size_toList (s : ByteArray) : s.data.toList.length = s.size := by simp
theorem toList_get (s : ByteArray) (j : Nat) (h : j < s.size) : s.data.toList[j]? = some s[j] := by
  rw [List.getElem?_eq_getElem (by simpa using h)]; rfl

theorem numOkS_false_digit {s : ByteArray} {k : Nat} (hk : k < s.size) (hd : isD s[k] = false) : numOkS s = false := by
  have : s.data.toList.all isD = false := by
    rw [List.all_eq_false]
    exact ⟨s[k], List.mem_of_getElem? (toList_get s k hk), by simp [hd]⟩
  simp [numOkS, numOk, this]
theorem numOkS_empty {s : ByteArray} (h : s.size = 0) : numOkS s = false := by
  have : s.data.toList.length = 0 := by rw [size_toList]; exact h
  simp [numOkS, numOk, this] at *
theorem numOkS_long {s : ByteArray} (h : 9 < s.size) : numOkS s = false := by
  have e : decide (s.data.toList.length ≤ 9) = false := by rw [size_toList]; simp; exact h
  simp only [numOkS, numOk, e]; simp
theorem all_of_AllD {s : ByteArray} (h : AllD s s.size) : s.data.toList.all isD = true := by
  rw [List.all_eq_true]
  intro b hb
  obtain ⟨j, hj, rfl⟩ := List.getElem_of_mem hb
  exact h j (by simpa using hj) (by simpa using hj)
theorem head_toList {s : ByteArray} (h : 0 < s.size) : s.data.toList.head? = some s[0] := by
  rw [List.head?_eq_getElem?]; exact toList_get s 0 h
theorem numOkS_one {s : ByteArray} (h : AllD s s.size) (h1 : s.size = 1) : numOkS s = true := by
  have e : s.data.toList.length = 1 := by rw [size_toList]; exact h1
  simp only [numOkS, numOk, all_of_AllD h, e]; simp
theorem numOkS_nought {s : ByteArray} (h2 : 2 ≤ s.size) (h0 : s[0].toNat = 48) : numOkS s = false := by
  have e : decide (s.data.toList.length = 1) = false := by rw [size_toList]; simp; omega
  have e2 : s[0] = 48 := by apply UInt8.toNat_inj.1; exact h0
  simp only [numOkS, numOk, e, head_toList (by omega : 0 < s.size), e2]; simp
theorem numOkS_more {s : ByteArray} (h : AllD s s.size) (h2 : 2 ≤ s.size) (h9 : s.size ≤ 9) (h0 : s[0].toNat ≠ 48) : numOkS s = true := by
  have e1 : decide (1 ≤ s.data.toList.length) = true := by rw [size_toList]; simp; omega
  have e2 : decide (s.data.toList.length ≤ 9) = true := by rw [size_toList]; simp; omega
  have e3 : (some s[0] == some (48 : UInt8)) = false := by
    simp; intro e; apply h0; rw [e]; rfl
  simp only [numOkS, numOk, all_of_AllD h, e1, e2, head_toList (by omega : 0 < s.size), e3]; simp
end Go.Proofs.YtpnondeaiinccaaDoor
