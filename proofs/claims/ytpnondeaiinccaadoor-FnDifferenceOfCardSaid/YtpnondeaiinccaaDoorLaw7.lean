/- Plain laws: what OnTranscript tells of the transcript of a sum. -/
import Derived.Test.YtpnondeaiinccaaDoorLaw5
import Derived.Test.YtpnondeaiinccaaDoorTrans
namespace Go.Proofs.YtpnondeaiinccaaDoor
open Go.RowKit
set_option linter.unusedVariables false
theorem val_of_int {g : Col → Int} {cs : List Col} {n : Nat} (h : allD g cs) (e : intV g cs = (n : Int)) : val (digs g cs) = n := by
  have := digs_val h; omega
theorem added_trans {s t : ByteArray} (hs : numOkS s = true) (ht : numOkS t = true) :
    transB (addedL s t) = true ∧ transT Col.a (addedL s t) = s ∧ transT Col.b (addedL s t) = t := by
  have h1 := numOkS_size hs
  have h2 := numOkS_size ht
  have hl := added_len hs ht
  have hall := ok_single (fun _ hr => (rAdd_iff.1 hr).1) _ 0 (added_ok hs ht)
  have hB : transB (addedL s t) = true := transB_iff.2 ⟨by omega, hall⟩
  have hd := single_allD hall
  have ha := added_a hs ht
  refine ⟨hB, ?_, ?_⟩
  · unfold transT; rw [if_pos hB, val_of_int hd.1 ha.1, decS_of hs]
  · unfold transT; rw [if_pos hB, val_of_int hd.2.1 ha.2, decS_of ht]
theorem added_nil {s t : ByteArray} (h : addedL s t ≠ []) : numOkS s = true ∧ numOkS t = true := by
  by_cases hs : numOkS s = true
  · by_cases ht : numOkS t = true
    · exact ⟨hs, ht⟩
    · rw [addedL_bad2 (ne_true ht)] at h; exact absurd rfl h
  · rw [addedL_bad1 (ne_true hs)] at h; exact absurd rfl h
end Go.Proofs.YtpnondeaiinccaaDoor
