/- The walk of laws.FnWrittenOf: whatever is drawn, the law answers true; nothing that was there is changed. -/
import Derived.Test.YtpnondeaiinccaaDoorDrawA
import Derived.Test.YtpnondeaiinccaaDoorLaw12
import Derived.Test.YtpnondeaiinccaaDoorWritten2
import Derived.Test.YtpnondeaiinccaaDoorTrans
import Derived.Test.YtpnondeaiinccaaDoorValue
import Derived.OpenShut
namespace Go.Proofs.YtpnondeaiinccaaDoor.lawFnWrittenOf
open Go.RowKit Go.Proofs.YtpnondeaiinccaaDoor
set_option linter.unusedVariables false
set_option maxRecDepth 100000 in
set_option maxHeartbeats 3200000 in
theorem walk (a0 : Option Addr) (len0 cap0 : Nat) (z0 : List Int) (w : World) (w0 : IsBytes w a0 len0 cap0 z0) :
    Calls Tryd.prog 12 #[.slice a0 len0 cap0] w fun e w' => e = .returned (.bool true) ∧ Below w.heap.size w w' := by
  by_cases hl : 1048576 < len0
  · go_enter Tryd.func12, Tryd.ntmps12
    go_wp2_with fail
    go_ret
    exact ⟨rfl, Below.refl _ _⟩
  · go_enter Tryd.func12, Tryd.ntmps12
    go_wp2_with fail
    refine (s_drawWrittenOf a0 len0 cap0 z0 _ w0 (by omega)).mono ?_
    rintro e w1 ⟨v, cs, rfl, hcl, m1, hb1⟩
    have hlb : cs.length ≤ 1048576 := by omega
    have h1 := fun W hv => i_writtenOf v cs W hv hlb
    have h2 := fun W hv => s_writtenOf v cs W hv hlb
    cases ho : writtenO cs with
    | none =>
      rw [ho] at h1 h2
      have H1 := Lib.hid h1
      have H2 := Lib.hid h2
      have M1 := Lib.hid m1
      clear h1 h2 m1
      go_wp2_with fail
      refine (H1.out _ M1.out.cols).mono ?_
      rintro e w2 ⟨he, b2⟩
      obtain rfl : e = .returned (.tuple #[.string ⟨#[]⟩, .bool false]) := he
      have M2 := Lib.hid (M1.out.below b2)
      have hb2 := hb1.trans (b2.mono hb1.size)
      go_wp2_with fail
      refine (H2.out _ M2.out.cols).mono ?_
      rintro e w3 ⟨he, b3⟩
      obtain rfl : e = .returned (.tuple #[.string ⟨#[]⟩, .bool false]) := he
      have hb3 := hb2.trans (b3.mono hb2.size)
      go_wp2_with (go_at_call 16; refine (l_alive _).mono ?_; rintro e w' ⟨rfl, rfl⟩)
      go_ret
      exact ⟨rfl, hb3⟩
    | some x =>
      rw [ho] at h1 h2
      obtain ⟨n1, hB, ev⟩ := written_facts ho
      have hD := trans_allD hB
      have xa := (trans_num hB hD.1).1
      have xb := (trans_num hB hD.2.1).1
      obtain ⟨a, ha⟩ : ∃ a, a = transT Col.a cs := ⟨_, rfl⟩
      obtain ⟨b, hbb⟩ : ∃ b, b = transT Col.b cs := ⟨_, rfl⟩
      have htr : transE cs = .returned (.tuple #[.string a, .string b, .bool true]) := by unfold transE; rw [hB, ha, hbb]
      rw [← ha] at xa ev
      rw [← hbb] at xb ev
      have hxs : x.size ≤ maxLen := by have := numOkS_size n1; unfold maxLen; omega
      have has : a.size ≤ maxLen := by have := numOkS_size xa; unfold maxLen; omega
      have hbs : b.size ≤ maxLen := by have := numOkS_size xb; unfold maxLen; omega
      have v1 := val_bd2 a
      have v2 := val_bd2 b
      have ts : (x.toList == x.toList) = true := by simp
      have q1 : (valI x == valI a + valI b) = true := by rw [ev]; simp
      have H1 := Lib.hid h1
      have H2 := Lib.hid h2
      have M1 := Lib.hid m1
      have HT := Lib.hid htr
      clear h1 h2 m1 xa xb ev ho hB hD ha hbb htr
      go_wp2_with fail
      refine (H1.out _ M1.out.cols).mono ?_
      rintro e w2 ⟨he, b2⟩
      obtain rfl : e = .returned (.tuple #[.string x, .bool true]) := he
      have M2 := Lib.hid (M1.out.below b2)
      have hb2 := hb1.trans (b2.mono hb1.size)
      go_wp2_with fail
      refine (H2.out _ M2.out.cols).mono ?_
      rintro e w3 ⟨he, b3⟩
      obtain rfl : e = .returned (.tuple #[.string x, .bool true]) := he
      have M3 := Lib.hid (M2.out.below b3)
      have hb3 := hb2.trans (b3.mono hb2.size)
      go_wp2_with fail
      refine (i_onTranscript _ cs _ M3.out.cols hlb).mono ?_
      rintro e w4 ⟨he, b4⟩
      rw [HT.out] at he
      subst he
      have hb4 := hb3.trans (b4.mono hb3.size)
      clear b2 b3 b4 hb2 hb3 M1 M2 M3
      go_wp2_with fail
      refine (i_numeralOk x _ hxs).mono ?_
      rintro e w5 ⟨rfl, rfl⟩
      go_wp2_with fail
      refine (i_valueOf x _ hxs).mono ?_
      rintro e w5 ⟨rfl, b5⟩
      have hb5 := hb4.trans (b5.mono hb4.size)
      go_wp2_with fail
      refine (i_valueOf a _ has).mono ?_
      rintro e w6 ⟨rfl, b6⟩
      have hb6 := hb5.trans (b6.mono hb5.size)
      go_wp2_with fail
      refine (i_valueOf b _ hbs).mono ?_
      rintro e w7 ⟨rfl, b7⟩
      have hb7 := hb6.trans (b7.mono hb6.size)
      go_wp2_with fail
      go_ret
      exact ⟨rfl, hb7⟩
end Go.Proofs.YtpnondeaiinccaaDoor.lawFnWrittenOf
