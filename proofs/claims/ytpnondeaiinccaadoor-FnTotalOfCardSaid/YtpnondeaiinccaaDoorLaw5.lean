/- Plain laws of sums and differences: what the transcripts of two numerals tell. -/
import Derived.Test.YtpnondeaiinccaaDoorLaw3
import Derived.Test.YtpnondeaiinccaaDoorSum
namespace Go.Proofs.YtpnondeaiinccaaDoor
open Go.RowKit
set_option linter.unusedVariables false
/-- the digits of a numeral as columns' numbers -/
theorem intV_seq (g : Col → Int) : ∀ (n : Nat) (f : Nat → Col) (q : Nat → Nat), (∀ k, g (f k) = (q k : Int)) → intV g (seqTo f n) = ((numTo q n : Nat) : Int)
  | 0, f, q, h => rfl
  | n + 1, f, q, h => by
    rw [seqTo_cons, intV, intV_seq g n (fun j => f (j + 1)) (fun j => q (j + 1)) (fun k => h (k + 1)), numTo_front, h 0]
    omega
theorem add_right {s t : ByteArray} (hs : numOkS s = true) (ht : numOkS t = true) (k : Nat) : rAdd (addCol s t k) = true := by
  have h1 := dAtS_le hs k
  have h2 := dAtS_le ht k
  have h3 := addCarry_bd hs ht k
  rw [rAdd_iff, singleB_iff]
  unfold addCol
  simp only
  refine ⟨⟨by omega, by omega, by omega, by omega, by omega⟩, by omega⟩
theorem added_ok {s t : ByteArray} (hs : numOkS s = true) (ht : numOkS t = true) : okFrom rAdd 0 (addedL s t) := by
  rw [addedL_ok hs ht]
  exact ok_seq _ _ (fun k _ => add_right hs ht k) (fun k _ => rfl) 0 (fun _ => rfl)
theorem added_len {s t : ByteArray} (hs : numOkS s = true) (ht : numOkS t = true) : (addedL s t).length = max s.size t.size := by rw [addedL_ok hs ht, seqTo_length]
theorem added_wrong {s t : ByteArray} (hs : numOkS s = true) (ht : numOkS t = true) : wAdd (addedL s t) = -1 := by
  have h1 := numOkS_size hs
  have h2 := numOkS_size ht
  exact wAdd_of_ok (by rw [added_len hs ht]; omega) (added_ok hs ht)
theorem added_ne {s t : ByteArray} (hs : numOkS s = true) (ht : numOkS t = true) : addedL s t ≠ [] := by
  intro e
  have h1 := numOkS_size hs
  have := added_len hs ht
  rw [e] at this
  simp at this
  omega
theorem added_a {s t : ByteArray} (hs : numOkS s = true) (ht : numOkS t = true) : intV Col.a (addedL s t) = (valS s : Int) ∧ intV Col.b (addedL s t) = (valS t : Int) := by
  rw [addedL_ok hs ht, intV_seq Col.a _ _ (dAtS s) (fun _ => rfl), intV_seq Col.b _ _ (dAtS t) (fun _ => rfl), valS_num_more s _ (by omega), valS_num_more t _ (by omega)]
  exact ⟨rfl, rfl⟩
theorem byteOf_dv {d : Int} (h : 0 ≤ d ∧ d ≤ 9) : dv (byteOf d) = d.toNat := by unfold byteOf; exact dv_ofNat (by omega)
/-- the text of right columns with their last carry ahead tells the sum of both rows -/
theorem with_val {cs : List Col} (hne : cs ≠ []) (h : wAdd cs = -1) : ((val (digB (withL cs)) : Nat) : Int) = intV Col.a cs + intV Col.b cs := by
  obtain ⟨hd, h9⟩ := wAdd_dig hne h
  have hok := (wAdd_ok h).2
  have hl := add_law cs 0 hok
  have hD : allD Col.d cs := (single_allD (ok_single (fun _ hr => (rAdd_iff.1 hr).1) cs 0 hok)).2.2
  have hv := digs_val hD
  have ho := hd (lastO 0 cs) (by simp [withL])
  rw [digB_with, val_cons, byteOf_dv ho, digs_length]
  have e : (((lastO 0 cs).toNat * 10 ^ cs.length + val (digs Col.d cs) : Nat) : Int) = lastO 0 cs * p10 cs.length + intV Col.d cs := by
    rw [Int.natCast_add, Int.natCast_mul, ← p10_eq, hv]
    congr 2
    omega
  rw [e]; omega
/-- what SumOf answers -/
theorem sumO_eq (s t : ByteArray) : sumO s t = if (numOkS s = true ∧ numOkS t = true) ∧ valS s + valS t < 1000000000 then some (decS (valS s + valS t)) else none := by
  by_cases hs : numOkS s = true
  · by_cases ht : numOkS t = true
    · have hne := added_ne hs ht
      have hw := added_wrong hs ht
      have hv := with_val hne hw
      rw [(added_a hs ht).1, (added_a hs ht).2] at hv
      have hv' : val (digB (withL (addedL s t))) = valS s + valS t := by omega
      unfold sumO
      rw [writtenO_ok hne hw]
      by_cases hlt : valS s + valS t < 1000000000
      · rw [if_pos ⟨⟨hs, ht⟩, hlt⟩, plainO_with_ok (by rw [hv']; exact hlt), hv']
      · rw [if_neg (fun h => hlt h.2), plainO_big (by rw [hv']; exact hlt)]
    · unfold sumO
      rw [addedL_bad2 (ne_true ht), if_neg (fun h => ht h.1.2)]; rfl
  · unfold sumO
    rw [addedL_bad1 (ne_true hs), if_neg (fun h => hs h.1.1)]; rfl
theorem sumO_some {s t x : ByteArray} (h : sumO s t = some x) : (numOkS s = true ∧ numOkS t = true) ∧ numOkS x = true ∧ valS x = valS s + valS t := by
  rw [sumO_eq] at h
  split at h
  · rename_i hc
    obtain rfl := Option.some.inj h
    exact ⟨hc.1, by rw [decS_ok]; simp [hc.2], decS_val _⟩
  · cases h
theorem sumO_comm (s t : ByteArray) : sumO s t = sumO t s := by
  rw [sumO_eq, sumO_eq, Nat.add_comm]
  by_cases hs : numOkS s = true <;> by_cases ht : numOkS t = true <;> simp [hs, ht]
end Go.Proofs.YtpnondeaiinccaaDoor
