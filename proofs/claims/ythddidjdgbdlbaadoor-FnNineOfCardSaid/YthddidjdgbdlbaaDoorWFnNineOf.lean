/- The walk of laws.FnNineOf: whatever is drawn, the law answers true; nothing that was there is changed. -/
import Derived.Test.YthddidjdgbdlbaaDoorOpen
import Derived.Test.YthddidjdgbdlbaaDoorLaw2
import Derived.Test.YthddidjdgbdlbaaDoorNine
import Derived.OpenShut
namespace Go.Proofs.YthddidjdgbdlbaaDoor.lawFnNineOf
open Go.RowKit Go.Proofs.YthddidjdgbdlbaaDoor
set_option linter.unusedVariables false
set_option maxRecDepth 100000 in
set_option maxHeartbeats 1600000 in
theorem walk (a0 : Option Addr) (len0 cap0 : Nat) (z0 : List Int) (w : World) (w0 : IsBytes w a0 len0 cap0 z0) :
    Calls Tryd.prog 7 #[.slice a0 len0 cap0] w fun e w' => e = .returned (.bool true) ∧ Below w.heap.size w w' := by
  by_cases hl : 1048576 < len0
  · go_enter Tryd.func7, Tryd.ntmps7
    go_wp2_with fail
    go_ret
    exact ⟨rfl, Below.refl _ _⟩
  · go_enter Tryd.func7, Tryd.ntmps7
    go_wp2_with fail
    refine (s_drawNineOf a0 len0 cap0 z0 _ w0 (by omega)).mono ?_
    rintro e w1 ⟨t, ht, rfl, hb⟩
    have hts : t.size ≤ maxLen := by unfold maxLen; omega
    by_cases hn : numOkS t = true
    · have HN := Lib.hid hn
      have h0 : 0 ≤ nineI t := by rw [nineI_ok hn]; omega
      have hv := valI_bd hn
      have e1 : (valI t).tmod 9 = valI t % 9 := Int.tmod_eq_emod_of_nonneg (by omega)
      have e2 : (nineI t == valI t % 9) = true := by rw [nineI_val hn]; simp
      clear hn
      go_wp2_with (go_at_call 30; refine (i_nineOf _ _ hts).mono ?_; rintro e w' ⟨rfl, rfl⟩)
      refine (s_nineOf _ _ hts).mono ?_
      rintro e w2 ⟨rfl, hb2⟩
      have hbs := hb.trans (hb2.mono hb.size)
      go_wp2_with fail
      refine (i_valueOf _ _ hts).mono ?_
      rintro e v0 ⟨rfl, hv0⟩
      have hbs := hbs.trans (hv0.mono hbs.size)
      go_wp2_with fail
      go_ret
      exact ⟨rfl, hbs⟩
    · have hn' := ne_true hn
      have hx := nineI_bad hn'
      have t0 : (nineI t == -1) = true := by rw [hx]; rfl
      have t0' : nineI t < 0 := by rw [hx]; omega
      clear hn hx
      go_wp2_with (go_at_call 30; refine (i_nineOf _ _ hts).mono ?_; rintro e w' ⟨rfl, rfl⟩)
      refine (s_nineOf _ _ hts).mono ?_
      rintro e w2 ⟨rfl, hb2⟩
      have hbs := hb.trans (hb2.mono hb.size)
      go_wp2_with (go_at_call 18; refine (l_alive _).mono ?_; rintro e w' ⟨rfl, rfl⟩)
      go_ret
      exact ⟨rfl, hbs⟩
end Go.Proofs.YthddidjdgbdlbaaDoor.lawFnNineOf
