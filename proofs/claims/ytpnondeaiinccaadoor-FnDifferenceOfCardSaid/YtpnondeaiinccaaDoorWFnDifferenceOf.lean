/- The walk of laws.FnDifferenceOf: whatever is drawn, the law answers true; nothing that was there is changed. -/
import Derived.Test.YtpnondeaiinccaaDoorCols0
import Derived.Test.YtpnondeaiinccaaDoorLaw9
import Derived.Test.YtpnondeaiinccaaDoorSum
import Derived.OpenShut
namespace Go.Proofs.YtpnondeaiinccaaDoor.lawFnDifferenceOf
open Go.RowKit Go.Proofs.YtpnondeaiinccaaDoor
set_option linter.unusedVariables false
set_option maxRecDepth 100000 in
set_option maxHeartbeats 3200000 in
theorem walk (a0 : Option Addr) (len0 cap0 : Nat) (z0 : List Int) (w : World) (w0 : IsBytes w a0 len0 cap0 z0) :
    Calls Tryd.prog 10 #[.slice a0 len0 cap0] w fun e w' => e = .returned (.bool true) ∧ Below w.heap.size w w' := by
  by_cases hl : 1048576 < len0
  · go_enter Tryd.func10, Tryd.ntmps10
    go_wp2_with fail
    go_ret
    exact ⟨rfl, Below.refl _ _⟩
  · go_enter Tryd.func10, Tryd.ntmps10
    go_wp2_with fail
    refine (s_drawDifferenceOf a0 len0 cap0 z0 _ w0 (by omega)).mono ?_
    rintro e w1 ⟨s, t, hs, ht, rfl, hb1⟩
    have hss : s.size ≤ maxLen := by unfold maxLen; omega
    have hts : t.size ≤ maxLen := by unfold maxLen; omega
    have h1 := fun W => i_differenceOf s t W hss hts
    have h2 := fun W => s_differenceOf s t W hss hts
    cases ho : diffO s t with
    | none =>
      rw [ho] at h1 h2
      have H1 := Lib.hid h1
      have H2 := Lib.hid h2
      clear h1 h2
      go_wp2_with fail
      refine (H1.out _).mono ?_
      rintro e w2 ⟨he, hb2⟩
      obtain rfl : e = .returned (.tuple #[.string ⟨#[]⟩, .bool false]) := he
      have hb2' := hb1.trans (hb2.mono hb1.size)
      go_wp2_with fail
      refine (H2.out _).mono ?_
      rintro e w3 ⟨he, hb3⟩
      obtain rfl : e = .returned (.tuple #[.string ⟨#[]⟩, .bool false]) := he
      have hb3' := hb2'.trans (hb3.mono hb2'.size)
      go_wp2_with (go_at_call 16; refine (l_alive _).mono ?_; rintro e w' ⟨rfl, rfl⟩)
      go_ret
      exact ⟨rfl, hb3'⟩
    | some x =>
      rw [ho] at h1 h2
      obtain ⟨e3, e4⟩ := diff_facts ho
      have nx := (sumO_some e3).1.1
      have hxs : x.size ≤ maxLen := by have := numOkS_size nx; unfold maxLen; omega
      have h3 := fun W => i_sumOf x t W hxs hts
      have h4 := fun W => i_differenceOf s s W hss hss
      rw [e3] at h3
      rw [e4] at h4
      have tx : (x.toList == x.toList) = true := by simp
      have ts : (s.toList == s.toList) = true := by simp
      have H1 := Lib.hid h1
      have H2 := Lib.hid h2
      have H3 := Lib.hid h3
      have H4 := Lib.hid h4
      clear h1 h2 h3 h4 nx e3 e4 ho
      go_wp2_with fail
      refine (H1.out _).mono ?_
      rintro e w2 ⟨he, hb2⟩
      obtain rfl : e = .returned (.tuple #[.string x, .bool true]) := he
      have hb2' := hb1.trans (hb2.mono hb1.size)
      go_wp2_with fail
      refine (H2.out _).mono ?_
      rintro e w3 ⟨he, hb3⟩
      obtain rfl : e = .returned (.tuple #[.string x, .bool true]) := he
      have hb3' := hb2'.trans (hb3.mono hb2'.size)
      go_wp2_with fail
      refine (H3.out _).mono ?_
      rintro e w4 ⟨he, hb4⟩
      obtain rfl : e = .returned (.tuple #[.string s, .bool true]) := he
      have hb4' := hb3'.trans (hb4.mono hb3'.size)
      go_wp2_with fail
      refine (H4.out _).mono ?_
      rintro e w5 ⟨he, hb5⟩
      obtain rfl : e = .returned (.tuple #[.string ⟨#[48]⟩, .bool true]) := he
      have hb5' := hb4'.trans (hb5.mono hb4'.size)
      go_wp2_with fail
      go_ret
      exact ⟨rfl, hb5'⟩
end Go.Proofs.YtpnondeaiinccaaDoor.lawFnDifferenceOf
