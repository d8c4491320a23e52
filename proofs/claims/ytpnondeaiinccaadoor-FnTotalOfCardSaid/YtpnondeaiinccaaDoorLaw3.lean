/- Plain laws of the transcripts that are made: they are right. -/
import Derived.Test.YtpnondeaiinccaaDoorLaw1
import Derived.Test.YtpnondeaiinccaaDoorMade3
namespace Go.Proofs.YtpnondeaiinccaaDoor
open Go.RowKit
set_option linter.unusedVariables false
theorem seqTo_cons (f : Nat → Col) (n : Nat) : seqTo f (n + 1) = f 0 :: seqTo (fun j => f (j + 1)) n := by
  unfold seqTo
  rw [List.range_succ_eq_map, List.map_cons, List.map_map]; rfl
theorem ok_seq {r : Col → Bool} : ∀ (n : Nat) (f : Nat → Col), (∀ k, k < n → r (f k) = true) → (∀ k, k + 1 < n → (f (k + 1)).i = (f k).o) → ∀ x, (0 < n → (f 0).i = x) → okFrom r x (seqTo f n)
  | 0, f, _, _, x, _ => trivial
  | n + 1, f, hr, hc, x, hx => by
    rw [seqTo_cons]
    refine ⟨hx (by omega), hr 0 (by omega), ok_seq n (fun j => f (j + 1)) (fun k hk => hr (k + 1) (by omega)) (fun k hk => hc (k + 1) (by omega)) _ (fun hn => hc 0 (by omega))⟩
theorem b0_row {s : ByteArray} {d : Int} {n : Nat} (hn : 0 < n) : b0Of (seqTo (rowCol s d) n) = d := by
  obtain ⟨m, rfl⟩ : ∃ m, n = m + 1 := ⟨n - 1, by omega⟩
  rw [seqTo_cons]; rfl
theorem row_right {s : ByteArray} {d : Int} (hs : numOkS s = true) (hd : 0 ≤ d ∧ d ≤ 9) (k : Nat) : rRow d (rowCol s d k) = true := by
  have h1 := dAtS_le hs k
  have h2 := rowCar_bd hs hd k
  have h3 := mul_le81' (a := (dAtS s k : Int)) (b := d) (by omega) hd
  rw [rRow_iff, goodB_iff]
  unfold rowCol
  simp only
  refine ⟨⟨by omega, hd, by omega, by omega, by omega⟩, trivial, by omega⟩
theorem rowL_wrong {s : ByteArray} {d : Int} (h : rowL s d ≠ []) : wRow (rowL s d) = -1 ∧ (rowL s d).length = s.size ∧ ∀ c ∈ rowL s d, c.o ≤ 8 := by
  by_cases hs : numOkS s = true
  · by_cases hd : inB d 0 9 = true
    · have hd9 := inB_iff.1 hd
      have hz := numOkS_size hs
      rw [rowL_ok hs hd]
      refine ⟨?_, seqTo_length _ _, fun c hc => ?_⟩
      · refine wRow_of_ok (by rw [seqTo_length]; exact hz) ?_
        rw [b0_row (by omega)]
        exact ok_seq _ _ (fun k _ => row_right hs hd9 k) (fun k _ => rfl) 0 (fun _ => rfl)
      · obtain ⟨k, hk⟩ := List.getElem?_of_mem hc
        obtain ⟨_, rfl⟩ := seqTo_get_iff hk
        exact (rowCar_bd hs hd9 (k + 1)).2
    · rw [rowL_bad2 (ne_true hd)] at h; exact absurd rfl h
  · rw [rowL_bad1 (ne_true hs)] at h; exact absurd rfl h
end Go.Proofs.YtpnondeaiinccaaDoor
