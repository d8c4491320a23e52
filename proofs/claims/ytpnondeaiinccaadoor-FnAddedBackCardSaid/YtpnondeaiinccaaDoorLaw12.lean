/- Plain laws of what a right transcript tells and writes: sums and differences. -/
import Derived.Test.YtpnondeaiinccaaDoorLaw8
import Derived.Test.YtpnondeaiinccaaDoorLaw10
import Derived.Test.YtpnondeaiinccaaDoorTrans
import Derived.Test.YtpnondeaiinccaaDoorValue
namespace Go.Proofs.YtpnondeaiinccaaDoor
open Go.RowKit
set_option linter.unusedVariables false
theorem byteOf_dv2 {d : Int} (h : 0 ≤ d ∧ d ≤ 9) : dv (byteOf d) = d.toNat := by unfold byteOf; exact dv_ofNat (by omega)
/-- the text of right columns with their last carry ahead tells the sum of both rows -/
theorem with_val2 {cs : List Col} (hne : cs ≠ []) (h : wAdd cs = -1) : ((val (digB (withL cs)) : Nat) : Int) = intV Col.a cs + intV Col.b cs := by
  obtain ⟨hd, h9⟩ := wAdd_dig hne h
  have hok := (wAdd_ok h).2
  have hl := add_law cs 0 hok
  have hD : allD Col.d cs := (single_allD (ok_single (fun _ hr => (rAdd_iff.1 hr).1) cs 0 hok)).2.2
  have hv := digs_val hD
  have ho := hd (lastO 0 cs) (by simp [withL])
  rw [digB_with, val_cons, byteOf_dv2 ho, digs_length]
  have e : (((lastO 0 cs).toNat * 10 ^ cs.length + val (digs Col.d cs) : Nat) : Int) = lastO 0 cs * p10 cs.length + intV Col.d cs := by
    rw [Int.natCast_add, Int.natCast_mul, ← p10_eq, hv]
    congr 2
    omega
  rw [e]; omega
theorem val_bd2 (s : ByteArray) : -1 ≤ valI s ∧ valI s < 1000000000 := by
  by_cases h : numOkS s = true
  · have := valS_lt9 h
    rw [valI_ok h]; omega
  · rw [valI_bad (ne_true h)]; omega
theorem trimZ_le {l : List UInt8} (h : 1 ≤ l.length) : (trimZ l).length ≤ l.length := by
  unfold trimZ
  simp only
  split
  · simpa using h
  · exact (List.dropWhile_suffix _).length_le
/-- both rows of digits of a right transcript as numerals -/
theorem trans_num {g : Col → Int} {cs : List Col} (hB : transB cs = true) (hg : allD g cs) :
    numOkS (transT g cs) = true ∧ (transT g cs).size ≤ cs.length ∧ valI (transT g cs) = intV g cs ∧ (valS (transT g cs) : Int) = intV g cs := by
  have hl := (transB_iff.1 hB).1
  have hlt := digs_lt hg (by omega)
  have hdv := digs_val hg
  have hn : numOkS (decS (val (digs g cs))) = true := by rw [decS_ok]; simp [hlt]
  unfold transT
  rw [if_pos hB]
  have hz : (decS (val (digs g cs))).size ≤ cs.length := by
    rw [← size_toList, decS_list, ← trimZ_dec (digs_all hg)]
    have := trimZ_le (l := digs g cs) (by rw [digs_length]; omega)
    rw [digs_length] at this
    exact this
  refine ⟨hn, hz, ?_, ?_⟩
  · rw [valI_ok hn, decS_val, hdv]
  · rw [decS_val, hdv]
theorem trans_allD {cs : List Col} (hB : transB cs = true) : allD Col.a cs ∧ allD Col.b cs ∧ allD Col.d cs := single_allD (transB_iff.1 hB).2
theorem trans_no {g : Col → Int} {cs : List Col} (hB : transB cs = false) : transT g cs = ⟨#[]⟩ := by unfold transT; rw [hB]; rfl
theorem add_trans {cs : List Col} (hne : cs ≠ []) (h : wAdd cs = -1) : transB cs = true := by
  refine transB_iff.2 ⟨⟨?_, (wAdd_ok h).1⟩, single_add h⟩
  rcases Nat.eq_zero_or_pos cs.length with h0 | h0
  · exact absurd (List.eq_nil_of_length_eq_zero h0) hne
  · exact h0
theorem take_trans {cs : List Col} (hne : cs ≠ []) (h : wTake cs = -1) : transB cs = true := by
  refine transB_iff.2 ⟨⟨?_, (wTake_ok h).1⟩, single_take h⟩
  rcases Nat.eq_zero_or_pos cs.length with h0 | h0
  · exact absurd (List.eq_nil_of_length_eq_zero h0) hne
  · exact h0
/-- what is written tells the sum of both rows -/
theorem written_facts {cs : List Col} {s : ByteArray} (h : writtenO cs = some s) :
    numOkS s = true ∧ transB cs = true ∧ valI s = valI (transT Col.a cs) + valI (transT Col.b cs) := by
  have hne : cs ≠ [] := fun e => by rw [e, writtenO_nil] at h; cases h
  have hw : wAdd cs = -1 := by
    by_cases e : wAdd cs = -1
    · exact e
    · rw [writtenO_no e] at h; cases h
  have hB := add_trans hne hw
  have hD := trans_allD hB
  have hv := with_val2 hne hw
  rw [writtenO_ok hne hw] at h
  have hlt : val (digB (withL cs)) < 1000000000 := by
    rcases Nat.lt_or_ge (val (digB (withL cs))) 1000000000 with hc | hc
    · exact hc
    · rw [plainO_big (by omega)] at h; cases h
  rw [plainO_with_ok hlt] at h
  obtain rfl := Option.some.inj h
  have hn : numOkS (decS (val (digB (withL cs)))) = true := by rw [decS_ok]; simp [hlt]
  refine ⟨hn, hB, ?_⟩
  rw [(trans_num hB hD.1).2.2.1, (trans_num hB hD.2.1).2.2.1, valI_ok hn, decS_val, hv]
theorem left_facts {cs : List Col} {s : ByteArray} (h : leftO cs = some s) :
    numOkS s = true ∧ transB cs = true ∧ valI s = valI (transT Col.a cs) - valI (transT Col.b cs) := by
  have hne : cs ≠ [] := fun e => by rw [e, leftO_nil] at h; cases h
  have hw : wTake cs = -1 := by
    by_cases e : wTake cs = -1
    · exact e
    · rw [leftO_no e] at h; cases h
  have hB := take_trans hne hw
  have hD := trans_allD hB
  rw [leftO_ok hne hw] at h
  obtain rfl := Option.some.inj h
  have hlt := digs_lt hD.2.2 (wTake_ok hw).1
  have hn : numOkS (decS (val (digs Col.d cs))) = true := by rw [decS_ok]; simp [hlt]
  have hl := take_law cs 0 (wTake_ok hw).2.1
  rw [(wTake_ok hw).2.2] at hl
  refine ⟨hn, hB, ?_⟩
  rw [(trans_num hB hD.1).2.2.1, (trans_num hB hD.2.1).2.2.1, valI_ok hn, decS_val, digs_val hD.2.2]
  omega
theorem taken_order {cs : List Col} (hne : cs ≠ []) (hw : wTake cs = -1) : 0 ≤ orderI (transT Col.a cs) (transT Col.b cs) := by
  have hB := take_trans hne hw
  have hD := trans_allD hB
  have hl := take_law cs 0 (wTake_ok hw).2.1
  rw [(wTake_ok hw).2.2] at hl
  have ha := trans_num hB hD.1
  have hb := trans_num hB hD.2.1
  have hd := (intV_bd hD.2.2).1
  exact (order_of_val ha.1 hb.1 (by omega)).1
end Go.Proofs.YtpnondeaiinccaaDoor
