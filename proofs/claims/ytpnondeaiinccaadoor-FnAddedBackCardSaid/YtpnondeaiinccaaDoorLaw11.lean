/- Plain laws of adding back. -/
import Derived.Test.YtpnondeaiinccaaDoorLaw12
import Derived.Test.YtpnondeaiinccaaDoorBack
namespace Go.Proofs.YtpnondeaiinccaaDoor
open Go.RowKit
set_option linter.unusedVariables false
/-! ### Adding back -/
theorem back_ok : ∀ (cs : List Col) (x : Int), okFrom rTake x cs → okFrom rAdd x (cs.map backCol)
  | [], _, _ => trivial
  | c :: cs, x, h => by
    refine ⟨h.1, ?_, back_ok cs c.o h.2.2⟩
    have h1 := rTake_iff.1 h.2.1
    have h2 := singleB_iff.1 h1.1
    rw [rAdd_iff, singleB_iff]
    simp only [backCol]
    refine ⟨⟨by omega, by omega, by omega, by omega, by omega⟩, by omega⟩
theorem back_last : ∀ (cs : List Col) (x : Int), lastO x (cs.map backCol) = lastO x cs
  | [], _ => rfl
  | c :: cs, x => back_last cs c.o
theorem back_outs (cs : List Col) : outsI (cs.map backCol) = outsI cs := by
  unfold outsI; rw [List.map_map]; rfl
theorem back_int (cs : List Col) : intV Col.a (cs.map backCol) = intV Col.d cs ∧ intV Col.b (cs.map backCol) = intV Col.b cs := by
  induction cs with
  | nil => exact ⟨rfl, rfl⟩
  | cons c cs ih => rw [List.map_cons, intV, intV, intV, intV, ih.1, ih.2]; exact ⟨rfl, rfl⟩
theorem back_facts {cs : List Col} (hne : backL cs ≠ []) :
    wTake cs = -1 ∧ backL cs = cs.map backCol ∧ wAdd (backL cs) = -1 ∧ carriesI (backL cs) = borrowsI cs ∧ transB cs = true ∧ writtenO (backL cs) = some (transT Col.a cs) := by
  have hw : wTake cs = -1 := by
    by_cases e : wTake cs = -1
    · exact e
    · rw [backL_no e] at hne; exact absurd rfl hne
  have he := backL_ok hw
  rw [he] at hne ⊢
  have hc : cs ≠ [] := fun e => by rw [e] at hne; exact hne rfl
  obtain ⟨hl, hok, h0⟩ := wTake_ok hw
  have hwa : wAdd (cs.map backCol) = -1 := wAdd_of_ok (by rw [List.length_map]; exact hl) (back_ok cs 0 hok)
  have hB := take_trans hc hw
  have hD := trans_allD hB
  refine ⟨hw, rfl, hwa, ?_, hB, ?_⟩
  · unfold carriesI borrowsI
    rw [if_pos hwa, if_pos hw, back_outs]
  · have hv := with_val2 hne hwa
    rw [(back_int cs).1, (back_int cs).2] at hv
    have hlaw := take_law cs 0 hok
    rw [h0] at hlaw
    have hda := digs_val hD.1
    have e : val (digB (withL (cs.map backCol))) = val (digs Col.a cs) := by omega
    have hlt := digs_lt hD.1 hl
    rw [writtenO_ok hne hwa, plainO_with_ok (by rw [e]; exact hlt), e]
    unfold transT
    rw [if_pos hB]
end Go.Proofs.YtpnondeaiinccaaDoor
