/- Plain laws of differences: the transcript of taking away is right, and what it tells. -/
import Derived.Test.YtpnondeaiinccaaDoorLaw7
import Derived.Test.YtpnondeaiinccaaDoorLaw8
import Derived.Test.YtpnondeaiinccaaDoorMade4
namespace Go.Proofs.YtpnondeaiinccaaDoor
open Go.RowKit
set_option linter.unusedVariables false
theorem take_right {s t : ByteArray} (hs : numOkS s = true) (ht : numOkS t = true) (k : Nat) : rTake (takeCol s t k) = true := by
  have h1 := dAtS_le hs k
  have h2 := dAtS_le ht k
  have h3 := takeBor_bd s t k
  rw [rTake_iff, singleB_iff]
  by_cases hn : (dAtS s k : Int) - (dAtS t k : Int) - takeBor s t k < 0
  · rw [takeCol_neg hn]; simp only; refine ⟨⟨by omega, by omega, by omega, by omega, by omega⟩, by omega⟩
  · rw [takeCol_pos hn]; simp only; refine ⟨⟨by omega, by omega, by omega, by omega, by omega⟩, by omega⟩
theorem taken_len {s t : ByteArray} (h : 0 ≤ orderI s t) : (takenL s t).length = s.size := by rw [takenL_ok h, seqTo_length]
theorem taken_ok {s t : ByteArray} (h : 0 ≤ orderI s t) : okFrom rTake 0 (takenL s t) := by
  obtain ⟨⟨hs, ht⟩, _⟩ := order_ge h
  rw [takenL_ok h]
  exact ok_seq _ _ (fun k _ => take_right hs ht k) (fun k _ => rfl) 0 (fun _ => rfl)
theorem taken_a {s t : ByteArray} (h : 0 ≤ orderI s t) : intV Col.a (takenL s t) = (valS s : Int) ∧ intV Col.b (takenL s t) = (valS t : Int) := by
  obtain ⟨⟨hs, ht⟩, hz, _⟩ := order_ge h
  rw [takenL_ok h, intV_seq Col.a _ _ (dAtS s) (fun _ => rfl), intV_seq Col.b _ _ (dAtS t) (fun _ => rfl), valS_num_more s _ (by omega), valS_num_more t _ hz]
  exact ⟨rfl, rfl⟩
theorem lastO_bd : ∀ (l : List Col) (x : Int), 0 ≤ x ∧ x ≤ 1 → okFrom rTake x l → 0 ≤ lastO x l ∧ lastO x l ≤ 1
  | [], x, hx, _ => hx
  | c :: l, x, _, hk => lastO_bd l c.o (singleB_iff.1 (rTake_iff.1 hk.2.1).1).2.2.2.2 hk.2.2
theorem taken_last {s t : ByteArray} (h : 0 ≤ orderI s t) : lastO 0 (takenL s t) = 0 := by
  have hok := taken_ok h
  have hl := take_law _ 0 hok
  have hb := lastO_bd _ 0 (by omega) hok
  have ha := taken_a h
  have hD := (single_allD (ok_single (fun _ hr => (rTake_iff.1 hr).1) _ 0 hok)).2.2
  have hd := intV_bd hD
  have hv := (order_ge h).2.2
  rw [ha.1, ha.2] at hl
  rcases Int.lt_or_le 0 (lastO 0 (takenL s t)) with h0 | h0
  · have e : lastO 0 (takenL s t) = 1 := by omega
    rw [e] at hl
    omega
  · omega
theorem taken_wrong {s t : ByteArray} (h : 0 ≤ orderI s t) : wTake (takenL s t) = -1 := by
  refine wTake_of_ok ?_ (taken_ok h) (taken_last h)
  have := numOkS_size (order_ge h).1.1
  rw [taken_len h]; omega
theorem taken_ne {s t : ByteArray} (h : 0 ≤ orderI s t) : takenL s t ≠ [] := by
  intro e
  have h1 := numOkS_size (order_ge h).1.1
  have := taken_len h
  rw [e] at this
  simp at this
  omega
theorem taken_d {s t : ByteArray} (h : 0 ≤ orderI s t) : intV Col.d (takenL s t) = (valS s : Int) - (valS t : Int) := by
  have hl := take_law _ 0 (taken_ok h)
  rw [taken_last h, (taken_a h).1, (taken_a h).2] at hl
  omega
theorem taken_trans {s t : ByteArray} (h : 0 ≤ orderI s t) :
    transB (takenL s t) = true ∧ transT Col.a (takenL s t) = s ∧ transT Col.b (takenL s t) = t := by
  obtain ⟨⟨hs, ht⟩, _⟩ := order_ge h
  have h1 := numOkS_size hs
  have hall := ok_single (fun _ hr => (rTake_iff.1 hr).1) _ 0 (taken_ok h)
  have hB : transB (takenL s t) = true := transB_iff.2 ⟨by rw [taken_len h]; omega, hall⟩
  have hd := single_allD hall
  have ha := taken_a h
  refine ⟨hB, ?_, ?_⟩
  · unfold transT; rw [if_pos hB, val_of_int hd.1 ha.1, decS_of hs]
  · unfold transT; rw [if_pos hB, val_of_int hd.2.1 ha.2, decS_of ht]
theorem taken_nil {s t : ByteArray} (h : takenL s t ≠ []) : 0 ≤ orderI s t := by
  rcases Int.lt_or_le (orderI s t) 0 with h0 | h0
  · exact absurd (takenL_no h0) h
  · exact h0
/-- what DifferenceOf answers -/
theorem diffO_ok {s t : ByteArray} (h : 0 ≤ orderI s t) : diffO s t = some (decS (valS s - valS t)) := by
  have hD := (single_allD (ok_single (fun _ hr => (rTake_iff.1 hr).1) _ 0 (taken_ok h))).2.2
  have hv := (order_ge h).2.2
  unfold diffO
  rw [leftO_ok (taken_ne h) (taken_wrong h), val_of_int hD (n := valS s - valS t) (by rw [taken_d h]; omega)]
theorem diffO_no {s t : ByteArray} (h : orderI s t < 0) : diffO s t = none := by
  unfold diffO; rw [takenL_no h]; rfl
theorem diffO_some {s t x : ByteArray} (h : diffO s t = some x) : 0 ≤ orderI s t ∧ x = decS (valS s - valS t) := by
  rcases Int.lt_or_le (orderI s t) 0 with h0 | h0
  · rw [diffO_no h0] at h; cases h
  · rw [diffO_ok h0] at h; exact ⟨h0, (Option.some.inj h).symm⟩
theorem dec_zero : decS 0 = (⟨#[48]⟩ : ByteArray) := by
  unfold decS
  rw [dec_lt (by omega)]; rfl
theorem diff_facts {s t x : ByteArray} (h : diffO s t = some x) : sumO x t = some s ∧ diffO s s = some ⟨#[48]⟩ := by
  obtain ⟨h0, rfl⟩ := diffO_some h
  obtain ⟨⟨hs, ht⟩, _, hv⟩ := order_ge h0
  have hb := valS_lt9 hs
  refine ⟨?_, ?_⟩
  · rw [sumO_eq, decS_val, if_pos ⟨⟨by rw [decS_ok]; simp; omega, ht⟩, by omega⟩, show valS s - valS t + valS t = valS s by omega, decS_of hs]
  · rw [diffO_ok (order_of_val hs hs (Nat.le_refl _)).1, Nat.sub_self, dec_zero]
end Go.Proofs.YtpnondeaiinccaaDoor
