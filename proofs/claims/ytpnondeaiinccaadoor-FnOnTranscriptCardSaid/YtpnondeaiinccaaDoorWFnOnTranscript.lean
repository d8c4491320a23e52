/- The walk of laws.FnOnTranscript: whatever is drawn, the law answers true; nothing that was there is changed. -/
import Derived.Test.YtpnondeaiinccaaDoorDrawA
import Derived.Test.YtpnondeaiinccaaDoorLaw12
import Derived.Test.YtpnondeaiinccaaDoorTrans2
import Derived.OpenShut
namespace Go.Proofs.YtpnondeaiinccaaDoor.lawFnOnTranscript
open Go.RowKit Go.Proofs.YtpnondeaiinccaaDoor
set_option linter.unusedVariables false
set_option maxRecDepth 100000 in
set_option maxHeartbeats 3200000 in
theorem walk (a0 : Option Addr) (len0 cap0 : Nat) (z0 : List Int) (w : World) (w0 : IsBytes w a0 len0 cap0 z0) :
    Calls Tryd.prog 6 #[.slice a0 len0 cap0] w fun e w' => e = .returned (.bool true) ∧ Below w.heap.size w w' := by
  by_cases hl : 1048576 < len0
  · go_enter Tryd.func6, Tryd.ntmps6
    go_wp2_with fail
    go_ret
    exact ⟨rfl, Below.refl _ _⟩
  · go_enter Tryd.func6, Tryd.ntmps6
    go_wp2_with fail
    refine (s_drawOnTranscript a0 len0 cap0 z0 _ w0 (by omega)).mono ?_
    rintro e w1 ⟨v, cs, rfl, hcl, m1, hb1⟩
    have hlb : cs.length ≤ 1048576 := by omega
    have h1 := fun W hv => i_onTranscript v cs W hv hlb
    have h2 := fun W hv => s_onTranscript v cs W hv hlb
    have M1 := Lib.hid m1
    clear m1
    cases hB : transB cs with
    | false =>
      have htr : transE cs = .returned (.tuple #[.string ⟨#[]⟩, .string ⟨#[]⟩, .bool false]) := (transE_no hB).symm
      rw [htr] at h1 h2
      have H1 := Lib.hid h1
      have H2 := Lib.hid h2
      clear h1 h2 htr hB
      go_wp2_with fail
      refine (H1.out _ M1.out.cols).mono ?_
      rintro e w2 ⟨rfl, b2⟩
      have M2 := Lib.hid (M1.out.below b2)
      have hb2 := hb1.trans (b2.mono hb1.size)
      go_wp2_with fail
      refine (H2.out _ M2.out.cols).mono ?_
      rintro e w3 ⟨rfl, b3⟩
      have hb3 := hb2.trans (b3.mono hb2.size)
      go_wp2_with (go_at_call 16; refine (l_alive _).mono ?_; rintro e w' ⟨rfl, rfl⟩)
      go_ret
      exact ⟨rfl, hb3⟩
    | true =>
      have hD := trans_allD hB
      obtain ⟨xa, za, _⟩ := trans_num hB hD.1
      obtain ⟨xb, zb, _⟩ := trans_num hB hD.2.1
      obtain ⟨a, ha⟩ : ∃ a, a = transT Col.a cs := ⟨_, rfl⟩
      obtain ⟨b, hbb⟩ : ∃ b, b = transT Col.b cs := ⟨_, rfl⟩
      have htr : transE cs = .returned (.tuple #[.string a, .string b, .bool true]) := by unfold transE; rw [hB, ha, hbb]
      rw [← ha] at xa za
      rw [← hbb] at xb zb
      rw [htr] at h1 h2
      have has : a.size ≤ maxLen := by have := numOkS_size xa; unfold maxLen; omega
      have hbs : b.size ≤ maxLen := by have := numOkS_size xb; unfold maxLen; omega
      have ta : (a.toList == a.toList) = true := by simp
      have tb : (b.toList == b.toList) = true := by simp
      have za2 : (a.size : Int) ≤ (cs.length : Int) := by omega
      have zb2 : (b.size : Int) ≤ (cs.length : Int) := by omega
      obtain ⟨A, cap, rfl⟩ := M1.out.cols.len
      have H1 := Lib.hid h1
      have H2 := Lib.hid h2
      clear h1 h2 htr hB hD ha hbb
      go_wp2_with fail
      refine (H1.out _ M1.out.cols).mono ?_
      rintro e w2 ⟨rfl, b2⟩
      have M2 := Lib.hid (M1.out.below b2)
      have hb2 := hb1.trans (b2.mono hb1.size)
      go_wp2_with fail
      refine (H2.out _ M2.out.cols).mono ?_
      rintro e w3 ⟨rfl, b3⟩
      have hb3 := hb2.trans (b3.mono hb2.size)
      go_wp2_with fail
      refine (i_numeralOk a _ has).mono ?_
      rintro e w5 ⟨rfl, rfl⟩
      go_wp2_with fail
      refine (i_numeralOk b _ hbs).mono ?_
      rintro e w5 ⟨rfl, rfl⟩
      go_wp2_with fail
      go_ret
      exact ⟨rfl, hb3⟩
end Go.Proofs.YtpnondeaiinccaaDoor.lawFnOnTranscript
