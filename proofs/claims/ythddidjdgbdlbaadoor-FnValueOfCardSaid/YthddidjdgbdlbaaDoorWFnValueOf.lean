/- The walk of laws.FnValueOf: whatever is drawn, the law answers true; nothing that was there is changed. -/
import Derived.Test.YthddidjdgbdlbaaDoorOpen
import Derived.Test.YthddidjdgbdlbaaDoorLaw4
import Derived.OpenShut
namespace Go.Proofs.YthddidjdgbdlbaaDoor.lawFnValueOf
open Go.RowKit Go.Proofs.YthddidjdgbdlbaaDoor
set_option linter.unusedVariables false
theorem tabOf {w : World} (h : laidMetH Tryd.prog Rows.fnValueOfRow.laid w) : Tab w := by
  rw [MakeChecks.laidMetH_plain _ _ _ (by kernel_rfl)] at h
  exact tab_third h
set_option maxRecDepth 100000 in
set_option maxHeartbeats 1600000 in
theorem walk (a0 : Option Addr) (len0 cap0 : Nat) (z0 : List Int) (w : World) (w0 : IsBytes w a0 len0 cap0 z0) (hL : laidMetH Tryd.prog Rows.fnValueOfRow.laid w) :
    Calls Tryd.prog 3 #[.slice a0 len0 cap0] w fun e w' => e = .returned (.bool true) ∧ Below w.heap.size w w' := by
  have HT := Lib.hid (tabOf hL)
  clear hL
  by_cases hl : 1048576 < len0
  · go_enter Tryd.func3, Tryd.ntmps3
    go_wp2_with fail
    go_ret
    exact ⟨rfl, Below.refl _ _⟩
  · go_enter Tryd.func3, Tryd.ntmps3
    go_wp2_with fail
    refine (s_drawValueOf a0 len0 cap0 z0 _ w0 (by omega)).mono ?_
    rintro e w1 ⟨t, ht, rfl, hb⟩
    have hts : t.size ≤ maxLen := by unfold maxLen; omega
    have hts3 : (t.extract 0 (t.size - 1)).size ≤ maxLen := by rw [ByteArray.size_extract]; unfold maxLen; omega
    go_wp2_with fail
    refine (i_valueOf _ _ hts).mono ?_
    rintro e w2 ⟨rfl, hb2⟩
    have hb2' := hb.trans (hb2.mono hb.size)
    go_wp2_with fail
    refine (s_valueOf _ _ hts).mono ?_
    rintro e w3 ⟨rfl, rfl⟩
    by_cases hn : numOkS t = true
    · have hv := valI_bd hn
      have h0 : 0 ≤ valI t := hv.1
      have HO := Lib.hid (numeralO_val hn)
      have hz := numOkS_size hn
      have e10 : (valI t).tdiv 10 = valI t / 10 := Int.tdiv_eq_ediv_of_nonneg (by omega)
      have ts : (t.toList == t.toList) = true := by simp
      by_cases h1 : t.size = 1
      · have u1 : ((t.size : Int) == 1) = true := by simp [h1]
        clear hn h1
        go_wp2_with fail
        refine (i_numeralOf (valI t) _ (by omega) (HT.out.below hb2')).mono ?_
        rintro e w4 ⟨he, hb4⟩
        rw [HO.out] at he
        obtain rfl : e = .returned (.tuple #[.string t, .bool true]) := he
        go_wp2_with fail
        go_ret
        exact ⟨rfl, hb2'.trans (hb4.mono hb2'.size)⟩
      · have u1 : ((t.size : Int) == 1) = false := by rw [beq_eq_false_iff_ne]; omega
        have HV := Lib.hid (valI_cut hn h1)
        have hp : 1 ≤ t.size := by omega
        clear hn h1
        go_wp2_with fail
        refine (i_numeralOf (valI t) _ (by omega) (HT.out.below hb2')).mono ?_
        rintro e w4 ⟨he, hb4⟩
        rw [HO.out] at he
        obtain rfl : e = .returned (.tuple #[.string t, .bool true]) := he
        have hb4' := hb2'.trans (hb4.mono hb2'.size)
        go_wp2_with fail
        refine (i_valueOf _ _ hts3).mono ?_
        rintro e w5 ⟨rfl, hb5⟩
        rw [HV.out]
        go_wp2_with fail
        go_ret
        exact ⟨rfl, hb4'.trans (hb5.mono hb4'.size)⟩
    · have hn' := ne_true hn
      have hx := valI_bad hn'
      have t0 : (valI t == -1) = true := by rw [hx]; rfl
      have t0' : valI t < 0 := by rw [hx]; omega
      clear hn hx
      go_wp2_with (go_at_call 18; refine (l_alive _).mono ?_; rintro e w' ⟨rfl, rfl⟩)
      go_ret
      exact ⟨rfl, hb2'⟩
end Go.Proofs.YthddidjdgbdlbaaDoor.lawFnValueOf
