/- Plain laws of right transcripts: another digit is found where it is; what the digits sum up to; adding back. -/
import Derived.Test.YtpnondeaiinccaaDoorLaw1
namespace Go.Proofs.YtpnondeaiinccaaDoor
open Go.RowKit
set_option linter.unusedVariables false
def otherCol (c : Col) : Col := ⟨c.a, c.b, c.i, (c.d + 1) % 10, c.o⟩
theorem wrongFrom_set {r : Col → Bool} : ∀ (cs : List Col) (x : Int) (j k : Nat) (c c' : Col), okFrom r x cs → cs[k]? = some c → r c' = false → wrongFrom r x j (cs.set k c') = ((j + k : Nat) : Int)
  | [], _, _, _, _, _, _, h, _ => by simp at h
  | d :: cs, x, j, 0, c, c', h, hk, hr => by
    rw [List.set_cons_zero, wrongFrom, if_neg (by simp [hr])]; rfl
  | d :: cs, x, j, k + 1, c, c', h, hk, hr => by
    rw [List.set_cons_succ, wrongFrom, if_pos ⟨h.1, h.2.1⟩, wrongFrom_set cs d.o (j + 1) k c c' h.2.2 (by simpa using hk) hr]
    omega
theorem wrongFrom_bd (r : Col → Bool) : ∀ (cs : List Col) (x : Int) (j : Nat), wrongFrom r x j cs = -1 ∨ ((j : Int) ≤ wrongFrom r x j cs ∧ wrongFrom r x j cs < j + cs.length)
  | [], _, _ => .inl rfl
  | c :: cs, x, j => by
    rw [wrongFrom]
    split
    · rcases wrongFrom_bd r cs c.o (j + 1) with h | h
      · exact .inl h
      · right; rw [List.length_cons]; omega
    · right; rw [List.length_cons]; omega
theorem ok_mem {r : Col → Bool} : ∀ (cs : List Col) (x : Int) (k : Nat) (c : Col), okFrom r x cs → cs[k]? = some c → r c = true
  | [], _, _, _, _, h => by simp at h
  | d :: cs, x, 0, c, h, hk => by
    have e : d = c := by simpa using hk
    rw [← e]; exact h.2.1
  | d :: cs, x, k + 1, c, h, hk => ok_mem cs d.o k c h.2.2 (by simpa using hk)
theorem rAdd_other {c : Col} (h : rAdd c = true) : rAdd (otherCol c) = false := by
  have h1 := rAdd_iff.1 h
  have h2 := singleB_iff.1 h1.1
  cases e : rAdd (otherCol c) with
  | false => rfl
  | true => have := (rAdd_iff.1 e).2; simp only [otherCol] at this; omega
theorem rTake_other {c : Col} (h : rTake c = true) : rTake (otherCol c) = false := by
  have h1 := rTake_iff.1 h
  have h2 := singleB_iff.1 h1.1
  cases e : rTake (otherCol c) with
  | false => rfl
  | true => have := (rTake_iff.1 e).2; simp only [otherCol] at this; omega
theorem rRow_other {b : Int} {c : Col} (h : rRow b c = true) : rRow b (otherCol c) = false := by
  have h1 := rRow_iff.1 h
  have h2 := goodB_iff.1 h1.1
  cases e : rRow b (otherCol c) with
  | false => rfl
  | true =>
    have h3 := (rRow_iff.1 e).2.2
    have h4 := h1.2.2
    simp only [otherCol] at h3
    omega
theorem wAdd_other {cs : List Col} {k : Nat} {c : Col} (h : wAdd cs = -1) (hk : cs[k]? = some c) : wAdd (cs.set k (otherCol c)) = (k : Int) := by
  obtain ⟨hl, ho⟩ := wAdd_ok h
  unfold wAdd
  rw [if_neg (by rw [List.length_set]; omega)]
  unfold wrong
  rw [wrongFrom_set cs 0 0 k c _ ho hk (rAdd_other (ok_mem cs 0 k c ho hk))]
  omega
theorem wTake_other {cs : List Col} {k : Nat} {c : Col} (h : wTake cs = -1) (hk : cs[k]? = some c) : wTake (cs.set k (otherCol c)) = (k : Int) := by
  obtain ⟨hl, ho, _⟩ := wTake_ok h
  have e : wrong rTake (cs.set k (otherCol c)) = (k : Int) := by
    unfold wrong
    rw [wrongFrom_set cs 0 0 k c _ ho hk (rTake_other (ok_mem cs 0 k c ho hk))]
    omega
  unfold wTake
  rw [if_neg (by rw [List.length_set]; omega), e, if_neg (by omega)]
theorem b0_other {cs : List Col} {k : Nat} {c : Col} (hk : cs[k]? = some c) : b0Of (cs.set k (otherCol c)) = b0Of cs := by
  match cs, k, hk with
  | [], _, hk => simp at hk
  | d :: cs, 0, hk =>
    have e : d = c := by simpa using hk
    subst e; rfl
  | d :: cs, k + 1, hk => rfl
theorem wRow_other {cs : List Col} {k : Nat} {c : Col} (h : wRow cs = -1) (hk : cs[k]? = some c) : wRow (cs.set k (otherCol c)) = (k : Int) := by
  obtain ⟨hl, ho⟩ := wRow_ok h
  unfold wRow
  rw [b0_other hk, if_pos (by rw [List.length_set]; omega)]
  unfold wrong
  rw [wrongFrom_set cs 0 0 k c _ ho hk (rRow_other (ok_mem cs 0 k c ho hk))]
  omega
theorem wAdd_bd (cs : List Col) : wAdd cs = -1 ∨ (-2 ≤ wAdd cs ∧ wAdd cs < cs.length) := by
  unfold wAdd
  split
  · right; omega
  · rcases wrongFrom_bd rAdd cs 0 0 with h | h
    · exact .inl h
    · right; unfold wrong; omega
theorem wTake_bd (cs : List Col) : wTake cs = -1 ∨ (-2 ≤ wTake cs ∧ wTake cs ≤ cs.length) := by
  unfold wTake
  split
  · right; omega
  · split
    · right; omega
    · rcases wrongFrom_bd rTake cs 0 0 with h | h
      · exact .inl h
      · right; unfold wrong; omega
theorem wRow_bd (cs : List Col) : wRow cs = -1 ∨ (-2 ≤ wRow cs ∧ wRow cs < max (cs.length : Int) 1) := by
  unfold wRow
  split
  · rcases wrongFrom_bd (rRow (b0Of cs)) cs 0 0 with h | h
    · exact .inl h
    · right; unfold wrong; omega
  · right; omega
theorem wAdd_dig_at {cs : List Col} {k : Nat} {c : Col} (h : wAdd cs = -1) (hk : cs[k]? = some c) : singleB c = true := (rAdd_iff.1 (ok_mem cs 0 k c (wAdd_ok h).2 hk)).1
theorem wTake_dig_at {cs : List Col} {k : Nat} {c : Col} (h : wTake cs = -1) (hk : cs[k]? = some c) : singleB c = true := (rTake_iff.1 (ok_mem cs 0 k c (wTake_ok h).2.1 hk)).1
theorem wRow_dig_at {cs : List Col} {k : Nat} {c : Col} (h : wRow cs = -1) (hk : cs[k]? = some c) : goodB c = true := (rRow_iff.1 (ok_mem cs 0 k c (wRow_ok h).2 hk)).1
/-! ### Sums of the digits -/
theorem sumV_take {g : Col → Int} : ∀ {cs : List Col} {k : Nat} {c : Col}, cs[k]? = some c → sumV g (cs.take (k + 1)) = sumV g (cs.take k) + g c
  | [], _, _, h => by simp at h
  | d :: cs, 0, c, h => by
    have e : d = c := by simpa using h
    simp [sumV, e]
  | d :: cs, k + 1, c, h => by
    have ih := sumV_take (g := g) (cs := cs) (k := k) (c := c) (by simpa using h)
    rw [List.take_succ_cons, List.take_succ_cons, sumV, sumV, ih]; omega
theorem sumV_all (g : Col → Int) (cs : List Col) : sumV g (cs.take cs.length) = sumV g cs := by rw [List.take_of_length_le (Nat.le_refl _)]
theorem sumV_bd {g : Col → Int} {n : Int} : ∀ {cs : List Col}, (∀ c ∈ cs, 0 ≤ g c ∧ g c ≤ n) → 0 ≤ sumV g cs ∧ sumV g cs ≤ n * cs.length
  | [], _ => by simp [sumV]
  | c :: cs, h => by
    have ih := sumV_bd (g := g) (n := n) (cs := cs) fun d hd => h d (by simp [hd])
    have hc := h c (by simp)
    rw [sumV, List.length_cons, Int.natCast_add, Int.mul_add]
    omega
theorem outs_bd {cs : List Col} (h : ∀ c ∈ cs, singleB c = true) : 0 ≤ outsI cs ∧ outsI cs ≤ cs.length := by
  have := sumV_bd (g := Col.o) (n := 1) (cs := cs) fun c hc => by have := singleB_iff.1 (h c hc); omega
  rw [outs_sumV]; omega
theorem single_add {cs : List Col} (h : wAdd cs = -1) : ∀ c ∈ cs, singleB c = true := ok_single (fun _ hr => (rAdd_iff.1 hr).1) cs 0 (wAdd_ok h).2
theorem single_take {cs : List Col} (h : wTake cs = -1) : ∀ c ∈ cs, singleB c = true := ok_single (fun _ hr => (rTake_iff.1 hr).1) cs 0 (wTake_ok h).2.1
theorem carries_neg {cs : List Col} (h : carriesI cs < 0) : carriesI cs = -1 := by
  unfold carriesI at *
  split at h
  · rename_i hw; have := outs_bd (single_add hw); omega
  · rw [if_neg (by assumption)]
theorem borrows_neg {cs : List Col} (h : borrowsI cs < 0) : borrowsI cs = -1 := by
  unfold borrowsI at *
  split at h
  · rename_i hw; have := outs_bd (single_take hw); omega
  · rw [if_neg (by assumption)]
theorem carries_ge {cs : List Col} (h : ¬ carriesI cs < 0) : wAdd cs = -1 ∧ carriesI cs = outsI cs := by
  unfold carriesI at *
  split at h
  · rename_i hw; exact ⟨hw, if_pos hw⟩
  · omega
theorem borrows_ge {cs : List Col} (h : ¬ borrowsI cs < 0) : wTake cs = -1 ∧ borrowsI cs = outsI cs := by
  unfold borrowsI at *
  split at h
  · rename_i hw; exact ⟨hw, if_pos hw⟩
  · omega
theorem carries_sum {cs : List Col} (h : wAdd cs = -1) : sumV Col.d cs + lastO 0 cs = sumV Col.a cs + sumV Col.b cs - 9 * outsI cs := by
  have := add_sums cs 0 (wAdd_ok h).2
  rw [outs_sumV]; omega
theorem borrows_sum {cs : List Col} (h : wTake cs = -1) : sumV Col.a cs - sumV Col.b cs - sumV Col.d cs = -9 * outsI cs := by
  have := take_sums cs 0 (wTake_ok h).2.1
  have := (wTake_ok h).2.2
  rw [outs_sumV]; omega
end Go.Proofs.YtpnondeaiinccaaDoor
