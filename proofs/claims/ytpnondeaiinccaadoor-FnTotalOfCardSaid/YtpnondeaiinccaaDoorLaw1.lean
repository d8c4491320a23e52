/- Plain laws of transcripts: what the digits of right columns tell. -/
import Derived.Test.YtpnondeaiinccaaDoorPlain4
import Derived.Test.YtpnondeaiinccaaDoorVal
namespace Go.Proofs.YtpnondeaiinccaaDoor
open Go.RowKit

/-! ### Right columns, one after the other -/
def okFrom (r : Col → Bool) : Int → List Col → Prop
  | _, [] => True
  | x, c :: cs => c.i = x ∧ r c = true ∧ okFrom r c.o cs
def lastO : Int → List Col → Int
  | x, [] => x
  | _, c :: cs => lastO c.o cs
theorem ok_of_wrongFrom {r : Col → Bool} : ∀ (cs : List Col) (x : Int) (k : Nat), wrongFrom r x k cs = -1 → okFrom r x cs
  | [], _, _, _ => trivial
  | c :: cs, x, k, h => by
    rw [wrongFrom] at h
    split at h
    · rename_i hc; exact ⟨hc.1, hc.2, ok_of_wrongFrom cs _ _ h⟩
    · omega
theorem wrongFrom_of_ok {r : Col → Bool} : ∀ (cs : List Col) (x : Int) (k : Nat), okFrom r x cs → wrongFrom r x k cs = -1
  | [], _, _, _ => rfl
  | c :: cs, x, k, h => by rw [wrongFrom, if_pos ⟨h.1, h.2.1⟩]; exact wrongFrom_of_ok cs _ _ h.2.2
theorem lastO_carry : ∀ (cs : List Col) (x : Int), lastO x cs = if cs = [] then x else carryAt cs cs.length
  | [], _ => rfl
  | [c], _ => rfl
  | c :: d :: cs, x => by
    rw [lastO, lastO_carry (d :: cs) c.o, if_neg (by simp), if_neg (by simp)]
    simp [carryAt]
theorem lastO_zero (cs : List Col) : lastO 0 cs = carryAt cs cs.length := by
  rw [lastO_carry]; split
  · rename_i h; subst h; rfl
  · rfl
theorem wAdd_ok {cs : List Col} (h : wAdd cs = -1) : cs.length ≤ 9 ∧ okFrom rAdd 0 cs := by
  unfold wAdd at h
  split at h
  · omega
  · exact ⟨by omega, ok_of_wrongFrom cs 0 0 h⟩
theorem wAdd_of_ok {cs : List Col} (hl : cs.length ≤ 9) (h : okFrom rAdd 0 cs) : wAdd cs = -1 := by
  unfold wAdd; rw [if_neg (by omega)]; exact wrongFrom_of_ok cs 0 0 h
theorem wTake_ok {cs : List Col} (h : wTake cs = -1) : cs.length ≤ 9 ∧ okFrom rTake 0 cs ∧ lastO 0 cs = 0 := by
  unfold wTake at h
  split at h
  · omega
  · split at h
    · omega
    · rename_i h9 hc
      have ho := ok_of_wrongFrom cs 0 0 h
      refine ⟨by omega, ho, ?_⟩
      rw [lastO_zero]
      have hne : carryAt cs cs.length ≠ 1 := fun e => hc ⟨h, e⟩
      have key : ∀ (l : List Col) (x : Int), 0 ≤ x ∧ x ≤ 1 → okFrom rTake x l → 0 ≤ lastO x l ∧ lastO x l ≤ 1 := by
        intro l
        induction l with
        | nil => intro x hx _; exact hx
        | cons c l ih => intro x _ hk; exact ih c.o (singleB_iff.1 (rTake_iff.1 hk.2.1).1).2.2.2.2 hk.2.2
      have := key cs 0 (by omega) ho
      rw [lastO_zero] at this
      omega
theorem wTake_of_ok {cs : List Col} (hl : cs.length ≤ 9) (h : okFrom rTake 0 cs) (h0 : lastO 0 cs = 0) : wTake cs = -1 := by
  have hw : wrong rTake cs = -1 := wrongFrom_of_ok cs 0 0 h
  unfold wTake
  rw [if_neg (by omega), if_neg (fun x => by rw [lastO_zero] at h0; omega)]; exact hw
theorem wRow_ok {cs : List Col} (h : wRow cs = -1) : (1 ≤ cs.length ∧ cs.length ≤ 9) ∧ okFrom (rRow (b0Of cs)) 0 cs := by
  unfold wRow at h
  split at h
  · rename_i hl; exact ⟨hl, ok_of_wrongFrom cs 0 0 h⟩
  · omega
theorem wRow_of_ok {cs : List Col} (hl : 1 ≤ cs.length ∧ cs.length ≤ 9) (h : okFrom (rRow (b0Of cs)) 0 cs) : wRow cs = -1 := by
  unfold wRow; rw [if_pos hl]; exact wrongFrom_of_ok cs 0 0 h

/-! ### What rows of digits tell -/
def intV (g : Col → Int) : List Col → Int
  | [] => 0
  | c :: cs => g c + 10 * intV g cs
def p10 : Nat → Int
  | 0 => 1
  | k + 1 => 10 * p10 k
theorem p10_eq (k : Nat) : p10 k = ((10 ^ k : Nat) : Int) := by
  induction k with
  | zero => rfl
  | succ k ih => rw [p10, ih, Nat.pow_succ]; omega
theorem p10_pos (k : Nat) : 1 ≤ p10 k := by
  induction k with
  | zero => simp [p10]
  | succ k ih => rw [p10]; omega
theorem add_law : ∀ (cs : List Col) (x : Int), okFrom rAdd x cs → intV Col.a cs + intV Col.b cs + x = intV Col.d cs + lastO x cs * p10 cs.length
  | [], x, _ => by simp [intV, lastO, p10]
  | c :: cs, x, h => by
    have ih := add_law cs c.o h.2.2
    have hr := (rAdd_iff.1 h.2.1).2
    have hi := h.1
    have e : lastO c.o cs * p10 (cs.length + 1) = 10 * (lastO c.o cs * p10 cs.length) := by rw [p10, Int.mul_left_comm]
    simp only [intV, lastO, List.length_cons]
    rw [e]; omega
theorem take_law : ∀ (cs : List Col) (x : Int), okFrom rTake x cs → intV Col.a cs + lastO x cs * p10 cs.length = intV Col.b cs + intV Col.d cs + x
  | [], x, _ => by simp [intV, lastO, p10]
  | c :: cs, x, h => by
    have ih := take_law cs c.o h.2.2
    have hr := (rTake_iff.1 h.2.1).2
    have hi := h.1
    have e : lastO c.o cs * p10 (cs.length + 1) = 10 * (lastO c.o cs * p10 cs.length) := by rw [p10, Int.mul_left_comm]
    simp only [intV, lastO, List.length_cons]
    rw [e]; omega
/-- sums of columns' numbers -/
def sumV (g : Col → Int) : List Col → Int
  | [] => 0
  | c :: cs => g c + sumV g cs
theorem outs_sumV (cs : List Col) : outsI cs = sumV Col.o cs := by
  induction cs with
  | nil => rfl
  | cons c cs ih => unfold outsI at *; simp [sumV, ih]
theorem add_sums : ∀ (cs : List Col) (x : Int), okFrom rAdd x cs → sumV Col.a cs + sumV Col.b cs + x = sumV Col.d cs + 9 * sumV Col.o cs + lastO x cs
  | [], x, _ => by simp [sumV, lastO]
  | c :: cs, x, h => by
    have ih := add_sums cs c.o h.2.2
    have hr := (rAdd_iff.1 h.2.1).2
    have hi := h.1
    simp only [sumV, lastO]; omega
theorem take_sums : ∀ (cs : List Col) (x : Int), okFrom rTake x cs → sumV Col.a cs + 9 * sumV Col.o cs + lastO x cs = sumV Col.b cs + sumV Col.d cs + x
  | [], x, _ => by simp [sumV, lastO]
  | c :: cs, x, h => by
    have ih := take_sums cs c.o h.2.2
    have hr := (rTake_iff.1 h.2.1).2
    have hi := h.1
    simp only [sumV, lastO]; omega
/-- digits throughout -/
def allD (g : Col → Int) (cs : List Col) : Prop := ∀ c, c ∈ cs → 0 ≤ g c ∧ g c ≤ 9
theorem allD_cons {g : Col → Int} {c : Col} {cs : List Col} (h : allD g (c :: cs)) : (0 ≤ g c ∧ g c ≤ 9) ∧ allD g cs := ⟨h c (by simp), fun d hd => h d (by simp [hd])⟩
theorem intV_bd {g : Col → Int} : ∀ {cs : List Col}, allD g cs → 0 ≤ intV g cs ∧ intV g cs < p10 cs.length
  | [], _ => by simp [intV, p10]
  | c :: cs, h => by
    have ih := intV_bd (allD_cons h).2
    have hc := (allD_cons h).1
    simp only [intV, List.length_cons, p10]; omega
theorem ok_single {r : Col → Bool} (hr : ∀ c, r c = true → singleB c = true) : ∀ (cs : List Col) (x : Int), okFrom r x cs → ∀ c ∈ cs, singleB c = true
  | [], _, _ => fun c hc => by simp at hc
  | d :: cs, x, h => fun c hc => by
    rcases List.mem_cons.1 hc with rfl | hc
    · exact hr _ h.2.1
    · exact ok_single hr cs d.o h.2.2 c hc
theorem single_allD {cs : List Col} (h : ∀ c ∈ cs, singleB c = true) : allD Col.a cs ∧ allD Col.b cs ∧ allD Col.d cs :=
  ⟨fun c hc => (singleB_iff.1 (h c hc)).1, fun c hc => (singleB_iff.1 (h c hc)).2.1, fun c hc => (singleB_iff.1 (h c hc)).2.2.2.1⟩

/-! ### Texts of digits -/
def byteOf (n : Int) : UInt8 := UInt8.ofNat (48 + n.toNat)
def digs (g : Col → Int) (cs : List Col) : List UInt8 := (cs.map fun c => byteOf (g c)).reverse
theorem digs_cons (g : Col → Int) (c : Col) (cs : List Col) : digs g (c :: cs) = digs g cs ++ [byteOf (g c)] := by simp [digs]
theorem digs_val {g : Col → Int} : ∀ {cs : List Col}, allD g cs → ((val (digs g cs) : Nat) : Int) = intV g cs
  | [], _ => rfl
  | c :: cs, h => by
    have ih := digs_val (allD_cons h).2
    have hc := (allD_cons h).1
    rw [digs_cons, val_append, intV, ← ih]
    unfold byteOf
    rw [dv_ofNat (by omega)]; omega
theorem digs_all {g : Col → Int} : ∀ {cs : List Col}, allD g cs → (digs g cs).all isD = true
  | [], _ => rfl
  | c :: cs, h => by
    have ih := digs_all (allD_cons h).2
    have hc := (allD_cons h).1
    rw [digs_cons, List.all_append, ih]
    unfold byteOf
    rw [List.all_cons, isD_ofNat (show (g c).toNat ≤ 9 by omega)]; rfl
theorem digs_length (g : Col → Int) (cs : List Col) : (digs g cs).length = cs.length := by simp [digs]
theorem fold_cons : ∀ (l : List UInt8) (v : Nat), l.foldl step v = v * 10 ^ l.length + l.foldl step 0
  | [], v => by simp
  | b :: l, v => by
    rw [List.foldl_cons, List.foldl_cons, fold_cons l (step v b), fold_cons l (step 0 b)]
    simp only [step, List.length_cons, Nat.pow_succ]
    rw [Nat.add_mul, Nat.add_mul, Nat.mul_assoc, Nat.mul_left_comm 10 v, Nat.mul_comm 10 (10 ^ l.length), Nat.mul_zero, Nat.zero_mul]
    omega
theorem val_cons (b : UInt8) (l : List UInt8) : val (b :: l) = dv b * 10 ^ l.length + val l := by
  rw [val_eq, List.foldl_cons, fold_cons, show step 0 b = dv b by unfold step; omega]; rfl
end Go.Proofs.YtpnondeaiinccaaDoor
