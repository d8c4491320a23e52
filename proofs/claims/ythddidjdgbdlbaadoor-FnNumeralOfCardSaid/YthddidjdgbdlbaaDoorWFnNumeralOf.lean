/- The walk of laws.FnNumeralOf: whatever is drawn, the law answers true; nothing that was there is changed. -/
import Derived.Test.YthddidjdgbdlbaaDoorDrawN
import Derived.OpenShut
namespace Go.Proofs.YthddidjdgbdlbaaDoor.lawFnNumeralOf
open Go.RowKit Go.Proofs.YthddidjdgbdlbaaDoor
set_option linter.unusedVariables false
theorem tabOf {w : World} (h : laidMetH Tryd.prog Rows.fnNumeralOfRow.laid w) : Tab w := by
  rw [MakeChecks.laidMetH_plain _ _ _ (by kernel_rfl)] at h
  exact tab_third h
set_option maxRecDepth 100000 in
set_option maxHeartbeats 1600000 in
theorem walk (a0 : Option Addr) (len0 cap0 : Nat) (z0 : List Int) (w : World) (w0 : IsBytes w a0 len0 cap0 z0) (hL : laidMetH Tryd.prog Rows.fnNumeralOfRow.laid w) :
    Calls Tryd.prog 5 #[.slice a0 len0 cap0] w fun e w' => e = .returned (.bool true) ∧ Below w.heap.size w w' := by
  have HT := Lib.hid (tabOf hL)
  clear hL
  by_cases hl : 1048576 < len0
  · go_enter Tryd.func5, Tryd.ntmps5
    go_wp2_with fail
    go_ret
    exact ⟨rfl, Below.refl _ _⟩
  · go_enter Tryd.func5, Tryd.ntmps5
    go_wp2_with fail
    refine (s_drawNumeralOf a0 len0 cap0 z0 _ w0 (by omega)).mono ?_
    rintro e w1 ⟨n, hn0, hn1, rfl, hb⟩
    by_cases h0 : 0 ≤ n ∧ n < 1000000000
    · have HO := Lib.hid (numeralO_ok h0.1 h0.2)
      have hok : numOkS (decS n.toNat) = true := decS_num h0.1 h0.2
      have hds : (decS n.toNat).size ≤ maxLen := by have := numOkS_size hok; unfold maxLen; omega
      have HV := Lib.hid (valI_dec h0.1 h0.2)
      have ts : ((decS n.toNat).toList == (decS n.toNat).toList) = true := by simp
      have tn : (n == n) = true := by simp
      clear h0
      go_wp2_with fail
      refine (i_numeralOf n _ (by omega) (HT.out.below hb)).mono ?_
      rintro e w2 ⟨he, hb2⟩
      rw [HO.out] at he
      obtain rfl : e = .returned (.tuple #[.string (decS n.toNat), .bool true]) := he
      have hb2' := hb.trans (hb2.mono hb.size)
      go_wp2_with fail
      refine (s_numeralOf n _ (by omega)).mono ?_
      rintro e w3 ⟨he, hb3⟩
      rw [HO.out] at he
      obtain rfl : e = .returned (.tuple #[.string (decS n.toNat), .bool true]) := he
      have hb3' := hb2'.trans (hb3.mono hb2'.size)
      go_wp2_with (go_at_call 25; refine (i_numeralOk _ _ hds).mono ?_; rintro e w' ⟨rfl, rfl⟩)
      refine (i_valueOf _ _ hds).mono ?_
      rintro e w4 ⟨rfl, hb4⟩
      rw [HV.out]
      go_wp2_with fail
      go_ret
      exact ⟨rfl, hb3'.trans (hb4.mono hb3'.size)⟩
    · have HO := Lib.hid (show numeralO n = none by unfold numeralO; rw [if_neg h0])
      by_cases hneg : n < 0
      · clear h0
        go_wp2_with fail
        refine (i_numeralOf n _ (by omega) (HT.out.below hb)).mono ?_
        rintro e w2 ⟨he, hb2⟩
        rw [HO.out] at he
        obtain rfl : e = .returned (.tuple #[.string ⟨#[]⟩, .bool false]) := he
        have hb2' := hb.trans (hb2.mono hb.size)
        go_wp2_with fail
        refine (s_numeralOf n _ (by omega)).mono ?_
        rintro e w3 ⟨he, hb3⟩
        rw [HO.out] at he
        obtain rfl : e = .returned (.tuple #[.string ⟨#[]⟩, .bool false]) := he
        have hb3' := hb2'.trans (hb3.mono hb2'.size)
        go_wp2_with (go_at_call 18; refine (l_alive _).mono ?_; rintro e w' ⟨rfl, rfl⟩)
        go_ret
        exact ⟨rfl, hb3'⟩
      · have hbig : 1000000000 ≤ n := by omega
        clear h0
        go_wp2_with fail
        refine (i_numeralOf n _ (by omega) (HT.out.below hb)).mono ?_
        rintro e w2 ⟨he, hb2⟩
        rw [HO.out] at he
        obtain rfl : e = .returned (.tuple #[.string ⟨#[]⟩, .bool false]) := he
        have hb2' := hb.trans (hb2.mono hb.size)
        go_wp2_with fail
        refine (s_numeralOf n _ (by omega)).mono ?_
        rintro e w3 ⟨he, hb3⟩
        rw [HO.out] at he
        obtain rfl : e = .returned (.tuple #[.string ⟨#[]⟩, .bool false]) := he
        have hb3' := hb2'.trans (hb3.mono hb2'.size)
        go_wp2_with (go_at_call 18; refine (l_alive _).mono ?_; rintro e w' ⟨rfl, rfl⟩)
        go_ret
        exact ⟨rfl, hb3'⟩
end Go.Proofs.YthddidjdgbdlbaaDoor.lawFnNumeralOf
