/- Plain laws of totals: they are the sums of the numbers, in whatever order. -/
import Derived.Test.YtpnondeaiinccaaDoorTotal
import Derived.Test.YtpnondeaiinccaaDoorLaw5
namespace Go.Proofs.YtpnondeaiinccaaDoor
open Go.RowKit
set_option linter.unusedVariables false
def sumS : List ByteArray → Nat
  | [] => 0
  | z :: zs => valS z + sumS zs
theorem totalFrom_told : ∀ (zs : List ByteArray) (t x : ByteArray), totalFrom t zs = some x → numOkS t = true → (∀ z ∈ zs, numOkS z = true) ∧ numOkS x = true ∧ valS x = valS t + sumS zs
  | [], t, x, h, ht => by
    have e : t = x := Option.some.inj h
    subst e
    exact ⟨fun z hz => by simp at hz, ht, rfl⟩
  | z :: zs, t, x, h, ht => by
    cases ho : sumO t z with
    | none => rw [totalFrom_none ho] at h; cases h
    | some y =>
      rw [totalFrom_some ho] at h
      obtain ⟨⟨_, hz⟩, hy, hv⟩ := sumO_some ho
      obtain ⟨h1, h2, h3⟩ := totalFrom_told zs y x h hy
      refine ⟨fun u hu => ?_, h2, by rw [h3, hv, sumS]; omega⟩
      rcases List.mem_cons.1 hu with rfl | hu
      · exact hz
      · exact h1 u hu
theorem totalFrom_tell : ∀ (zs : List ByteArray) (t : ByteArray), numOkS t = true → (∀ z ∈ zs, numOkS z = true) → valS t + sumS zs < 1000000000 → totalFrom t zs = some (decS (valS t + sumS zs))
  | [], t, ht, _, _ => by
    rw [totalFrom, sumS, Nat.add_zero, decS_of ht]
  | z :: zs, t, ht, hz, hs => by
    rw [sumS] at hs
    have ho : sumO t z = some (decS (valS t + valS z)) := by
      rw [sumO_eq, if_pos ⟨⟨ht, hz z (by simp)⟩, by omega⟩]
    have hn : numOkS (decS (valS t + valS z)) = true := by rw [decS_ok]; simp; omega
    rw [totalFrom_some ho, totalFrom_tell zs _ hn (fun u hu => hz u (by simp [hu])) (by rw [decS_val]; omega), decS_val, sumS, Nat.add_assoc]
theorem sumS_append : ∀ (a b : List ByteArray), sumS (a ++ b) = sumS a + sumS b
  | [], b => by simp [sumS]
  | z :: a, b => by rw [List.cons_append, sumS, sumS, sumS_append a b]; omega
theorem sumS_reverse : ∀ (a : List ByteArray), sumS a.reverse = sumS a
  | [] => rfl
  | z :: a => by rw [List.reverse_cons, sumS_append, sumS_reverse a, sumS, sumS, sumS]; omega
theorem nought_ok : numOkS nought = true := rfl
theorem nought_val : valS nought = 0 := rfl
theorem total_facts {zs : List ByteArray} {x : ByteArray} (h : totalO zs = some x) :
    zs.length ≤ 9 ∧ (∀ z ∈ zs, numOkS z = true) ∧ numOkS x = true ∧ valS x = sumS zs ∧ totalO zs.reverse = some x := by
  by_cases h9 : 9 < zs.length
  · rw [totalO_long h9] at h; cases h
  · rw [totalO_short h9] at h
    obtain ⟨h1, h2, h3⟩ := totalFrom_told zs nought x h nought_ok
    rw [nought_val, Nat.zero_add] at h3
    have hb := valS_lt9 h2
    refine ⟨by omega, h1, h2, h3, ?_⟩
    rw [totalO_short (by rw [List.length_reverse]; exact h9), totalFrom_tell zs.reverse nought nought_ok (fun z hz => h1 z (by simpa using hz)) (by rw [nought_val, sumS_reverse]; omega), nought_val, Nat.zero_add, sumS_reverse, ← h3, decS_of h2]
theorem sumS_bd {zs : List ByteArray} (h : ∀ z ∈ zs, numOkS z = true) : sumS zs ≤ zs.length * 1000000000 := by
  induction zs with
  | nil => simp [sumS]
  | cons z zs ih =>
    have h1 := ih fun u hu => h u (by simp [hu])
    have h2 := valS_lt9 (h z (by simp))
    rw [sumS, List.length_cons]; omega
end Go.Proofs.YtpnondeaiinccaaDoor
