/- Walk of impl.TakenOf. -/
import Derived.Test.YtcmpbdmpdodbfaaMade
import Derived.Test.YtcmpbdmpdodbfaaOrder
namespace Go.Proofs.Ytcmpbdmpdodbfaa
open Go.RowKit
set_option linter.unusedVariables false
set_option maxRecDepth 100000
def takenL (s t : ByteArray) : List Col := if 0 ≤ orderI s t then seqTo (takeCol s t) s.size else []
theorem takenL_no {s t : ByteArray} (h : orderI s t < 0) : takenL s t = [] := by unfold takenL; rw [if_neg (by omega)]
theorem takenL_ok {s t : ByteArray} (h : 0 ≤ orderI s t) : takenL s t = seqTo (takeCol s t) s.size := by unfold takenL; rw [if_pos h]
theorem order_nums {s t : ByteArray} (h : 0 ≤ orderI s t) : numOkS s = true ∧ numOkS t = true ∧ t.size ≤ s.size := by
  by_cases h1 : numOkS s = true
  · by_cases h2 : numOkS t = true
    · refine ⟨h1, h2, ?_⟩
      rcases Nat.lt_or_ge s.size t.size with h3 | h3
      · rw [orderI_lt h1 h2 h3] at h; omega
      · exact h3
    · rw [orderI_bad2 (ne_true h2)] at h; omega
  · rw [orderI_bad1 (ne_true h1)] at h; omega
theorem takeCol_neg {s t : ByteArray} {k : Nat} (h : (dAtS s k : Int) - (dAtS t k : Int) - takeBor s t k < 0) : takeCol s t k = ⟨(dAtS s k : Int), (dAtS t k : Int), takeBor s t k, (dAtS s k : Int) - (dAtS t k : Int) - takeBor s t k + 10, 1⟩ := by
  unfold takeCol; rw [takeDig_one h, takeBor_one h]
theorem takeCol_pos {s t : ByteArray} {k : Nat} (h : ¬ (dAtS s k : Int) - (dAtS t k : Int) - takeBor s t k < 0) : takeCol s t k = ⟨(dAtS s k : Int), (dAtS t k : Int), takeBor s t k, (dAtS s k : Int) - (dAtS t k : Int) - takeBor s t k, 0⟩ := by
  unfold takeCol; rw [takeDig_no h, takeBor_no h]
end Go.Proofs.Ytcmpbdmpdodbfaa
