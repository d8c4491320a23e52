/- The walk of laws.FnElevenOf: whatever is drawn, the law answers true; nothing that was there is changed. -/
import Derived.Test.YthddidjdgbdlbaaDoorOpen
import Derived.Test.YthddidjdgbdlbaaDoorLaw2
import Derived.Test.YthddidjdgbdlbaaDoorSums
import Derived.OpenShut
namespace Go.Proofs.YthddidjdgbdlbaaDoor.lawFnElevenOf
open Go.RowKit Go.Proofs.YthddidjdgbdlbaaDoor
set_option linter.unusedVariables false
set_option maxRecDepth 100000 in
set_option maxHeartbeats 1600000 in
theorem walk (a0 : Option Addr) (len0 cap0 : Nat) (z0 : List Int) (w : World) (w0 : IsBytes w a0 len0 cap0 z0) :
    Calls Tryd.prog 9 #[.slice a0 len0 cap0] w fun e w' => e = .returned (.bool true) ∧ Below w.heap.size w w' := by
  by_cases hl : 1048576 < len0
  · go_enter Tryd.func9, Tryd.ntmps9
    go_wp2_with fail
    go_ret
    exact ⟨rfl, Below.refl _ _⟩
  · go_enter Tryd.func9, Tryd.ntmps9
    go_wp2_with fail
    refine (s_drawElevenOf a0 len0 cap0 z0 _ w0 (by omega)).mono ?_
    rintro e w1 ⟨t, ht, rfl, hb⟩
    have hts : t.size ≤ maxLen := by unfold maxLen; omega
    by_cases hn : numOkS t = true
    · have HN := Lib.hid hn
      have h0 : 0 ≤ elevenI t := by rw [elevenI_ok hn]; omega
      have hv := valI_bd hn
      have e1 : (valI t).tmod 11 = valI t % 11 := Int.tmod_eq_emod_of_nonneg (by omega)
      have e2 : (elevenI t == valI t % 11) = true := by rw [elevenI_val hn]; simp
      clear hn
      go_wp2_with (go_at_call 36; refine (i_elevenOf _ _ hts).mono ?_; rintro e w' ⟨rfl, rfl⟩)
      refine (s_elevenOf _ _ hts).mono ?_
      rintro e w2 ⟨rfl, rfl⟩
      have hbs := hb
      go_wp2_with fail
      refine (i_valueOf _ _ hts).mono ?_
      rintro e v0 ⟨rfl, hv0⟩
      have hbs := hbs.trans (hv0.mono hbs.size)
      go_wp2_with fail
      go_ret
      exact ⟨rfl, hbs⟩
    · have hn' := ne_true hn
      have hx := elevenI_bad hn'
      have t0 : (elevenI t == -1) = true := by rw [hx]; rfl
      have t0' : elevenI t < 0 := by rw [hx]; omega
      clear hn hx
      go_wp2_with (go_at_call 36; refine (i_elevenOf _ _ hts).mono ?_; rintro e w' ⟨rfl, rfl⟩)
      refine (s_elevenOf _ _ hts).mono ?_
      rintro e w2 ⟨rfl, rfl⟩
      have hbs := hb
      go_wp2_with (go_at_call 18; refine (l_alive _).mono ?_; rintro e w' ⟨rfl, rfl⟩)
      go_ret
      exact ⟨rfl, hbs⟩
end Go.Proofs.YthddidjdgbdlbaaDoor.lawFnElevenOf
