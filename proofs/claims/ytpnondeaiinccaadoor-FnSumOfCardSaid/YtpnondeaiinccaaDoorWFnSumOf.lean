/- The walk of laws.FnSumOf: whatever is drawn, the law answers true; nothing that was there is changed. -/
import Derived.Test.YtpnondeaiinccaaDoorBoth
import Derived.Test.YtpnondeaiinccaaDoorLaw6
import Derived.Test.YtpnondeaiinccaaDoorSums
import Derived.OpenShut
namespace Go.Proofs.YtpnondeaiinccaaDoor.lawFnSumOf
open Go.RowKit Go.Proofs.YtpnondeaiinccaaDoor
set_option linter.unusedVariables false
set_option maxRecDepth 100000 in
set_option maxHeartbeats 3200000 in
theorem walk (a0 : Option Addr) (len0 cap0 : Nat) (z0 : List Int) (w : World) (w0 : IsBytes w a0 len0 cap0 z0) :
    Calls Tryd.prog 4 #[.slice a0 len0 cap0] w fun e w' => e = .returned (.bool true) ∧ Below w.heap.size w w' := by
  by_cases hl : 1048576 < len0
  · go_enter Tryd.func4, Tryd.ntmps4
    go_wp2_with fail
    go_ret
    exact ⟨rfl, Below.refl _ _⟩
  · go_enter Tryd.func4, Tryd.ntmps4
    go_wp2_with fail
    refine (s_drawSumOf a0 len0 cap0 z0 _ w0 (by omega)).mono ?_
    rintro e w1 ⟨s, t, hs, ht, rfl, hb⟩
    have hss : s.size ≤ maxLen := by unfold maxLen; omega
    have hts : t.size ≤ maxLen := by unfold maxLen; omega
    have h1 := fun W => i_sumOf s t W hss hts
    have h2 := fun W => s_sumOf s t W hss hts
    have h3 := fun W => i_sumOf t s W hts hss
    rw [sumO_comm t s] at h3
    cases ho : sumO s t with
    | none =>
      rw [ho] at h1 h2 h3
      have H1 := Lib.hid h1
      have H2 := Lib.hid h2
      clear h1 h2 h3
      go_wp2_with fail
      refine (H1.out _).mono ?_
      rintro e w2 ⟨he, hb2⟩
      obtain rfl : e = .returned (.tuple #[.string ⟨#[]⟩, .bool false]) := he
      have hb2' := hb.trans (hb2.mono hb.size)
      go_wp2_with fail
      refine (H2.out _).mono ?_
      rintro e w3 ⟨he, hb3⟩
      obtain rfl : e = .returned (.tuple #[.string ⟨#[]⟩, .bool false]) := he
      have hb3' := hb2'.trans (hb3.mono hb2'.size)
      go_wp2_with (go_at_call 16; refine (l_alive _).mono ?_; rintro e w' ⟨rfl, rfl⟩)
      go_ret
      exact ⟨rfl, hb3'⟩
    | some x =>
      rw [ho] at h1 h2 h3
      obtain ⟨⟨n1, n2, n3⟩, ev, e9, e11⟩ := sum_facts ho
      have hxs : x.size ≤ maxLen := by have := numOkS_size n3; unfold maxLen; omega
      have v1 := val_bd s
      have v2 := val_bd t
      have v3 := nine_bd s
      have v4 := nine_bd t
      have v5 := eleven_bd s
      have v6 := eleven_bd t
      have w9 : 0 ≤ nineI s ∧ 0 ≤ nineI t := by rw [nineI_ok n1, nineI_ok n2]; omega
      have w11 : 0 ≤ elevenI s ∧ 0 ≤ elevenI t := by rw [elevenI_ok n1, elevenI_ok n2]; omega
      have q1 : (valI x == valI s + valI t) = true := by rw [ev]; simp
      have q2 : (nineI s + nineI t).tmod 9 = (nineI s + nineI t) % 9 := Int.tmod_eq_emod_of_nonneg (by omega)
      have q3 : (nineI x == (nineI s + nineI t) % 9) = true := by rw [e9]; simp
      have q4 : (elevenI s + elevenI t).tmod 11 = (elevenI s + elevenI t) % 11 := Int.tmod_eq_emod_of_nonneg (by omega)
      have ts : (x.toList == x.toList) = true := by simp
      have q5 : (elevenI x == (elevenI s + elevenI t) % 11) = true := by rw [e11]; simp
      have H1 := Lib.hid h1
      have H2 := Lib.hid h2
      have H3 := Lib.hid h3
      clear h1 h2 h3 n1 n2 n3 ev e9 e11 ho
      go_wp2_with fail
      refine (H1.out _).mono ?_
      rintro e w2 ⟨he, hb2⟩
      obtain rfl : e = .returned (.tuple #[.string x, .bool true]) := he
      have hb2' := hb.trans (hb2.mono hb.size)
      go_wp2_with fail
      refine (H2.out _).mono ?_
      rintro e w3 ⟨he, hb3⟩
      obtain rfl : e = .returned (.tuple #[.string x, .bool true]) := he
      have hb3' := hb2'.trans (hb3.mono hb2'.size)
      go_wp2_with fail
      refine (H3.out _).mono ?_
      rintro e w4 ⟨he, hb4⟩
      obtain rfl : e = .returned (.tuple #[.string x, .bool true]) := he
      have hb4' := hb3'.trans (hb4.mono hb3'.size)
      clear hb hb2 hb3 hb4 hb2' hb3'
      go_wp2_with fail
      refine (i_valueOf _ _ hxs).mono ?_
      rintro e w5 ⟨rfl, hb5⟩
      have hb5' := hb4'.trans (hb5.mono hb4'.size)
      go_wp2_with fail
      refine (i_valueOf _ _ hss).mono ?_
      rintro e w6 ⟨rfl, hb6⟩
      have hb6' := hb5'.trans (hb6.mono hb5'.size)
      go_wp2_with fail
      refine (i_valueOf _ _ hts).mono ?_
      rintro e w7 ⟨rfl, hb7⟩
      have hb7' := hb6'.trans (hb7.mono hb6'.size)
      clear hb4' hb5 hb5' hb6 hb6' hb7
      go_wp2_with fail
      refine (i_nineOf _ _ hxs).mono ?_
      rintro e w8 ⟨rfl, rfl⟩
      go_wp2_with fail
      refine (i_nineOf _ _ hss).mono ?_
      rintro e w8 ⟨rfl, rfl⟩
      go_wp2_with fail
      refine (i_nineOf _ _ hts).mono ?_
      rintro e w8 ⟨rfl, rfl⟩
      go_wp2_with fail
      refine (i_elevenOf _ _ hxs).mono ?_
      rintro e w8 ⟨rfl, rfl⟩
      go_wp2_with fail
      refine (i_elevenOf _ _ hss).mono ?_
      rintro e w8 ⟨rfl, rfl⟩
      go_wp2_with fail
      refine (i_elevenOf _ _ hts).mono ?_
      rintro e w8 ⟨rfl, rfl⟩
      go_wp2_with fail
      go_ret
      exact ⟨rfl, hb7'⟩
end Go.Proofs.YtpnondeaiinccaaDoor.lawFnSumOf
