/- Plain laws of sums, continued: nines and elevens of a sum. -/
import Derived.Test.YtpnondeaiinccaaDoorLaw5
import Derived.Test.YtpnondeaiinccaaDoorLaw2
namespace Go.Proofs.YtpnondeaiinccaaDoor
open Go.RowKit
set_option linter.unusedVariables false
theorem sum_facts {s t x : ByteArray} (h : sumO s t = some x) :
    (numOkS s = true ∧ numOkS t = true ∧ numOkS x = true) ∧ valI x = valI s + valI t ∧ nineI x = (nineI s + nineI t) % 9 ∧ elevenI x = (elevenI s + elevenI t) % 11 := by
  obtain ⟨⟨hs, ht⟩, hx, hv⟩ := sumO_some h
  have e : valI x = valI s + valI t := by rw [valI_ok hs, valI_ok ht, valI_ok hx]; omega
  refine ⟨⟨hs, ht, hx⟩, e, ?_, ?_⟩
  · rw [nineI_val hs, nineI_val ht, nineI_val hx, e]; omega
  · rw [elevenI_val hs, elevenI_val ht, elevenI_val hx, e]; omega
theorem nine_bd (s : ByteArray) : -1 ≤ nineI s ∧ nineI s ≤ 8 := by unfold nineI; split <;> omega
theorem eleven_bd (s : ByteArray) : -1 ≤ elevenI s ∧ elevenI s ≤ 10 := by unfold elevenI; split <;> omega
theorem val_bd (s : ByteArray) : -1 ≤ valI s ∧ valI s < 1000000000 := by
  by_cases h : numOkS s = true
  · have := valI_bd h; omega
  · rw [valI_bad (ne_true h)]; omega
end Go.Proofs.YtpnondeaiinccaaDoor
