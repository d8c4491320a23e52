/- Plain mathematics of columns: when a transcript is right; no program occurs here. -/
import Derived.Test.YtpnondeaiinccaaDoorPlain2
namespace Go.Proofs.YtpnondeaiinccaaDoor
open Go.RowKit

/-- a column: two digits, what comes in, what is written, what goes on -/
structure Col where
  a : Int
  b : Int
  i : Int
  d : Int
  o : Int

def Col.cells (c : Col) : List Value := [.int .i64 c.a, .int .i64 c.b, .int .i64 c.i, .int .i64 c.d, .int .i64 c.o]
def Col.wf (c : Col) : Prop := (Lit.int .i64 c.a).wf = true ∧ (Lit.int .i64 c.b).wf = true ∧ (Lit.int .i64 c.i).wf = true ∧ (Lit.int .i64 c.d).wf = true ∧ (Lit.int .i64 c.o).wf = true

/-- a number lies between two others -/
def inB (n lo hi : Int) : Bool := decide (lo ≤ n) && decide (n ≤ hi)
theorem inB_iff {n lo hi : Int} : inB n lo hi = true ↔ lo ≤ n ∧ n ≤ hi := by simp [inB]
theorem inB_no {n lo hi : Int} (h : ¬ (lo ≤ n ∧ n ≤ hi)) : inB n lo hi = false := by
  cases e : inB n lo hi
  · rfl
  · exact absurd (inB_iff.1 e) h

/-- the numbers of a column are digits, its carries 0 or 1 -/
def singleB (c : Col) : Bool := inB c.a 0 9 && inB c.b 0 9 && inB c.i 0 1 && inB c.d 0 9 && inB c.o 0 1
theorem singleB_iff {c : Col} : singleB c = true ↔ (0 ≤ c.a ∧ c.a ≤ 9) ∧ (0 ≤ c.b ∧ c.b ≤ 9) ∧ (0 ≤ c.i ∧ c.i ≤ 1) ∧ (0 ≤ c.d ∧ c.d ≤ 9) ∧ (0 ≤ c.o ∧ c.o ≤ 1) := by
  simp only [singleB, Bool.and_eq_true, inB_iff, and_assoc]
/-- the numbers of a column of a row are in 0..9 -/
def goodB (c : Col) : Bool := inB c.a 0 9 && inB c.b 0 9 && inB c.i 0 9 && inB c.d 0 9 && inB c.o 0 9
theorem goodB_iff {c : Col} : goodB c = true ↔ (0 ≤ c.a ∧ c.a ≤ 9) ∧ (0 ≤ c.b ∧ c.b ≤ 9) ∧ (0 ≤ c.i ∧ c.i ≤ 9) ∧ (0 ≤ c.d ∧ c.d ≤ 9) ∧ (0 ≤ c.o ∧ c.o ≤ 9) := by
  simp only [goodB, Bool.and_eq_true, inB_iff, and_assoc]

def rAdd (c : Col) : Bool := singleB c && decide (c.a + c.b + c.i = c.d + 10 * c.o)
def rTake (c : Col) : Bool := singleB c && decide (c.a + 10 * c.o = c.b + c.i + c.d)
def rRow (b0 : Int) (c : Col) : Bool := goodB c && decide (c.b = b0) && decide (c.a * c.b + c.i = c.d + 10 * c.o)
theorem rAdd_iff {c : Col} : rAdd c = true ↔ singleB c = true ∧ c.a + c.b + c.i = c.d + 10 * c.o := by simp [rAdd]
theorem rTake_iff {c : Col} : rTake c = true ↔ singleB c = true ∧ c.a + 10 * c.o = c.b + c.i + c.d := by simp [rTake]
theorem rRow_iff {b0 : Int} {c : Col} : rRow b0 c = true ↔ goodB c = true ∧ c.b = b0 ∧ c.a * c.b + c.i = c.d + 10 * c.o := by simp [rRow, and_assoc]

/-- the number of the first column that is not right by itself or does not take what the one before hands on; -1 if there is none -/
def wrongFrom (r : Col → Bool) : Int → Nat → List Col → Int
  | _, _, [] => -1
  | x, k, c :: cs => if c.i = x ∧ r c = true then wrongFrom r c.o (k + 1) cs else (k : Int)
def wrong (r : Col → Bool) (cs : List Col) : Int := wrongFrom r 0 0 cs
/-- what is carried behind the first k columns -/
def carryAt (cs : List Col) (k : Nat) : Int := match k with
  | 0 => 0
  | k + 1 => match cs[k]? with
    | some c => c.o
    | none => 0
theorem carryAt_succ {cs : List Col} {k : Nat} {c : Col} (h : cs[k]? = some c) : carryAt cs (k + 1) = c.o := by simp [carryAt, h]

/-- the first k columns are right -/
def RightTo (r : Col → Bool) (cs : List Col) (k : Nat) : Prop := ∀ j c, j < k → cs[j]? = some c → c.i = carryAt cs j ∧ r c = true
theorem RightTo.zero (r : Col → Bool) (cs : List Col) : RightTo r cs 0 := fun j _ h => absurd h (by omega)
theorem RightTo.succ {r : Col → Bool} {cs : List Col} {k : Nat} {c : Col} (h : RightTo r cs k) (hc : cs[k]? = some c) (h1 : c.i = carryAt cs k) (h2 : r c = true) : RightTo r cs (k + 1) := fun j c' hj hc' => by
  by_cases e : j = k
  · subst e; rw [hc] at hc'; injection hc' with hc'; subst hc'; exact ⟨h1, h2⟩
  · exact h j c' (by omega) hc'
theorem wrongFrom_step {r : Col → Bool} {cs : List Col} : ∀ k, RightTo r cs k → k ≤ cs.length → wrong r cs = wrongFrom r (carryAt cs k) k (cs.drop k) := by
  intro k
  induction k with
  | zero => intro _ _; rfl
  | succ k ih =>
    intro h hk
    rw [ih (fun j c hj => h j c (by omega)) (by omega)]
    have hc : cs[k]? = some cs[k] := List.getElem?_eq_getElem (by omega)
    obtain ⟨h1, h2⟩ := h k _ (by omega) hc
    rw [List.drop_eq_getElem_cons (by omega), wrongFrom, if_pos ⟨h1, h2⟩, carryAt_succ hc]
theorem wrong_at {r : Col → Bool} {cs : List Col} {k : Nat} {c : Col} (h : RightTo r cs k) (hc : cs[k]? = some c) (hn : ¬ (c.i = carryAt cs k ∧ r c = true)) : wrong r cs = (k : Int) := by
  have hk : k < cs.length := (List.getElem?_eq_some_iff.1 hc).1
  have e : cs[k] = c := (List.getElem?_eq_some_iff.1 hc).2
  rw [wrongFrom_step k h (by omega), List.drop_eq_getElem_cons hk, e, wrongFrom, if_neg hn]
theorem wrong_none {r : Col → Bool} {cs : List Col} (h : RightTo r cs cs.length) : wrong r cs = -1 := by
  rw [wrongFrom_step cs.length h (Nat.le_refl _), List.drop_length]; rfl

/-- the answers of WrongColumn, WrongTaken, WrongRow -/
def wAdd (cs : List Col) : Int := if 9 < cs.length then -2 else wrong rAdd cs
def wTake (cs : List Col) : Int := if 9 < cs.length then -2 else if wrong rTake cs = -1 ∧ carryAt cs cs.length = 1 then (cs.length : Int) else wrong rTake cs
def b0Of (cs : List Col) : Int := match cs with
  | [] => 0
  | c :: _ => c.b
def wRow (cs : List Col) : Int := if 1 ≤ cs.length ∧ cs.length ≤ 9 then wrong (rRow (b0Of cs)) cs else -2
/-- a transcript of which no column is wrong is right throughout -/
theorem right_of_none {r : Col → Bool} {cs : List Col} (h : wrong r cs = -1) : RightTo r cs cs.length := by
  have key : ∀ k, k ≤ cs.length → RightTo r cs k := by
    intro k
    induction k with
    | zero => intro _; exact RightTo.zero r cs
    | succ k ih =>
      intro hk
      have hr := ih (by omega)
      have hc : cs[k]? = some cs[k] := List.getElem?_eq_getElem (by omega)
      by_cases hg : cs[k].i = carryAt cs k ∧ r cs[k] = true
      · exact hr.succ hc hg.1 hg.2
      · have := wrong_at hr hc hg
        omega
  exact key _ (Nat.le_refl _)

/-- how many columns carry something on (of a transcript that is right) -/
def outsI (cs : List Col) : Int := (cs.map Col.o).sum
def carriesI (cs : List Col) : Int := if wAdd cs = -1 then outsI cs else -1
def borrowsI (cs : List Col) : Int := if wTake cs = -1 then outsI cs else -1
theorem outs_take {cs : List Col} {k : Nat} {c : Col} (hc : cs[k]? = some c) : outsI (cs.take (k + 1)) = outsI (cs.take k) + c.o := by
  unfold outsI
  rw [List.take_add_one, hc]
  simp
end Go.Proofs.YtpnondeaiinccaaDoor
