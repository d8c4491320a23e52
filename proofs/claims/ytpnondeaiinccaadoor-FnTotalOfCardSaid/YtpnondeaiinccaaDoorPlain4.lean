/- Plain mathematics of transcripts: the columns of adding, of taking away and of a row. -/
import Derived.Test.YtpnondeaiinccaaDoorPlain3
namespace Go.Proofs.YtpnondeaiinccaaDoor
open Go.RowKit

/-- the columns f 0, f 1, .. f (n - 1) -/
def seqTo (f : Nat → Col) (n : Nat) : List Col := (List.range n).map f
theorem seqTo_succ (f : Nat → Col) (n : Nat) : seqTo f (n + 1) = seqTo f n ++ [f n] := by simp [seqTo, List.range_succ]
theorem seqTo_length (f : Nat → Col) (n : Nat) : (seqTo f n).length = n := by simp [seqTo]
theorem seqTo_get {f : Nat → Col} {n j : Nat} (h : j < n) : (seqTo f n)[j]? = some (f j) := by
  unfold seqTo; rw [List.getElem?_map, List.getElem?_range h]; rfl
theorem seqTo_get_iff {f : Nat → Col} {n j : Nat} {c : Col} (h : (seqTo f n)[j]? = some c) : j < n ∧ c = f j := by
  have hj : j < n := by have := (List.getElem?_eq_some_iff.1 h).1; rwa [seqTo_length] at this
  rw [seqTo_get hj] at h
  exact ⟨hj, (Option.some.inj h).symm⟩
/-- the cells of columns, one after the other -/
def flat (cs : List Col) : List Value := cs.flatMap Col.cells
theorem flat_nil : flat [] = [] := rfl
theorem flat_cons (c : Col) (cs : List Col) : flat (c :: cs) = c.cells ++ flat cs := rfl
theorem flat_append (a b : List Col) : flat (a ++ b) = flat a ++ flat b := by unfold flat; rw [List.flatMap_append]
theorem flat_one (c : Col) : flat [c] = c.cells := by rw [flat_cons, flat_nil, List.append_nil]
theorem flat_succ (f : Nat → Col) (n : Nat) : flat (seqTo f (n + 1)) = flat (seqTo f n) ++ (f n).cells := by rw [seqTo_succ, flat_append, flat_one]
theorem cells_length (c : Col) : c.cells.length = 5 := rfl
theorem flat_length (cs : List Col) : (flat cs).length = cs.length * 5 := by
  induction cs with
  | nil => rfl
  | cons c cs ih => rw [flat_cons, List.length_append, ih, cells_length, List.length_cons]; omega
theorem flat_get : ∀ {cs : List Col} {k : Nat} {c : Col} (_ : cs[k]? = some c) (j : Nat) (_ : j < 5), (flat cs)[k * 5 + j]? = c.cells[j]?
  | [], k, c, h, _, _ => by simp at h
  | x :: cs, 0, c, h, j, hj => by
    have e : x = c := by simpa using h
    subst e
    rw [flat_cons, Nat.zero_mul, Nat.zero_add, List.getElem?_append_left (by rw [cells_length]; exact hj)]
  | x :: cs, k + 1, c, h, j, hj => by
    have h' : cs[k]? = some c := by simpa using h
    have := flat_get h' j hj
    rw [flat_cons, List.getElem?_append_right (by rw [cells_length]; omega), cells_length, show (k + 1) * 5 + j - 5 = k * 5 + j from by omega]
    exact this

/-! ### Adding -/
def addCarry (s t : ByteArray) : Nat → Int
  | 0 => 0
  | k + 1 => ((dAtS s k : Int) + (dAtS t k : Int) + addCarry s t k) / 10
def addCol (s t : ByteArray) (k : Nat) : Col :=
  ⟨(dAtS s k : Int), (dAtS t k : Int), addCarry s t k, ((dAtS s k : Int) + (dAtS t k : Int) + addCarry s t k) % 10, ((dAtS s k : Int) + (dAtS t k : Int) + addCarry s t k) / 10⟩
theorem addCarry_bd {s t : ByteArray} (hs : numOkS s = true) (ht : numOkS t = true) (k : Nat) : 0 ≤ addCarry s t k ∧ addCarry s t k ≤ 1 := by
  induction k with
  | zero => simp [addCarry]
  | succ k ih =>
    have := dAtS_le hs k
    have := dAtS_le ht k
    rw [addCarry]; omega
def addedL (s t : ByteArray) : List Col := if numOkS s = true ∧ numOkS t = true then seqTo (addCol s t) (max s.size t.size) else []
theorem addedL_ok {s t : ByteArray} (hs : numOkS s = true) (ht : numOkS t = true) : addedL s t = seqTo (addCol s t) (max s.size t.size) := by unfold addedL; rw [if_pos ⟨hs, ht⟩]
theorem addedL_bad1 {s t : ByteArray} (hs : numOkS s = false) : addedL s t = [] := by unfold addedL; rw [if_neg (by simp [hs])]
theorem addedL_bad2 {s t : ByteArray} (ht : numOkS t = false) : addedL s t = [] := by unfold addedL; rw [if_neg (by simp [ht])]

/-! ### Taking away -/
def takeBor (s t : ByteArray) : Nat → Int
  | 0 => 0
  | k + 1 => if (dAtS s k : Int) - (dAtS t k : Int) - takeBor s t k < 0 then 1 else 0
theorem takeBor_one {s t : ByteArray} {k : Nat} (h : (dAtS s k : Int) - (dAtS t k : Int) - takeBor s t k < 0) : takeBor s t (k + 1) = 1 := by rw [takeBor, if_pos h]
theorem takeBor_no {s t : ByteArray} {k : Nat} (h : ¬ (dAtS s k : Int) - (dAtS t k : Int) - takeBor s t k < 0) : takeBor s t (k + 1) = 0 := by rw [takeBor, if_neg h]
def takeDig (s t : ByteArray) (k : Nat) : Int := if (dAtS s k : Int) - (dAtS t k : Int) - takeBor s t k < 0 then (dAtS s k : Int) - (dAtS t k : Int) - takeBor s t k + 10 else (dAtS s k : Int) - (dAtS t k : Int) - takeBor s t k
theorem takeDig_one {s t : ByteArray} {k : Nat} (h : (dAtS s k : Int) - (dAtS t k : Int) - takeBor s t k < 0) : takeDig s t k = (dAtS s k : Int) - (dAtS t k : Int) - takeBor s t k + 10 := by rw [takeDig, if_pos h]
theorem takeDig_no {s t : ByteArray} {k : Nat} (h : ¬ (dAtS s k : Int) - (dAtS t k : Int) - takeBor s t k < 0) : takeDig s t k = (dAtS s k : Int) - (dAtS t k : Int) - takeBor s t k := by rw [takeDig, if_neg h]
def takeCol (s t : ByteArray) (k : Nat) : Col := ⟨(dAtS s k : Int), (dAtS t k : Int), takeBor s t k, takeDig s t k, takeBor s t (k + 1)⟩
theorem takeBor_bd (s t : ByteArray) (k : Nat) : 0 ≤ takeBor s t k ∧ takeBor s t k ≤ 1 := by
  cases k with
  | zero => simp [takeBor]
  | succ k => rw [takeBor]; split <;> omega

/-! ### A row -/
def rowCar (s : ByteArray) (d : Int) : Nat → Int
  | 0 => 0
  | k + 1 => ((dAtS s k : Int) * d + rowCar s d k) / 10
def rowCol (s : ByteArray) (d : Int) (k : Nat) : Col :=
  ⟨(dAtS s k : Int), d, rowCar s d k, ((dAtS s k : Int) * d + rowCar s d k) % 10, ((dAtS s k : Int) * d + rowCar s d k) / 10⟩
theorem mul_le81' {a b : Int} (ha : 0 ≤ a ∧ a ≤ 9) (hb : 0 ≤ b ∧ b ≤ 9) : 0 ≤ a * b ∧ a * b ≤ 81 := by
  refine ⟨Int.mul_nonneg ha.1 hb.1, ?_⟩
  have h1 : a * b ≤ 9 * b := Int.mul_le_mul_of_nonneg_right ha.2 hb.1
  omega
theorem rowCar_bd {s : ByteArray} {d : Int} (hs : numOkS s = true) (hd : 0 ≤ d ∧ d ≤ 9) (k : Nat) : 0 ≤ rowCar s d k ∧ rowCar s d k ≤ 8 := by
  induction k with
  | zero => simp [rowCar]
  | succ k ih =>
    have h1 := dAtS_le hs k
    have := mul_le81' (a := (dAtS s k : Int)) (b := d) (by omega) hd
    rw [rowCar]; omega
def rowL (s : ByteArray) (d : Int) : List Col := if numOkS s = true ∧ inB d 0 9 = true then seqTo (rowCol s d) s.size else []
theorem rowL_ok {s : ByteArray} {d : Int} (hs : numOkS s = true) (hd : inB d 0 9 = true) : rowL s d = seqTo (rowCol s d) s.size := by unfold rowL; rw [if_pos ⟨hs, hd⟩]
theorem rowL_bad1 {s : ByteArray} {d : Int} (hs : numOkS s = false) : rowL s d = [] := by unfold rowL; rw [if_neg (by simp [hs])]
theorem rowL_bad2 {s : ByteArray} {d : Int} (hd : inB d 0 9 = false) : rowL s d = [] := by unfold rowL; rw [if_neg (by simp [hd])]
end Go.Proofs.YtpnondeaiinccaaDoor
