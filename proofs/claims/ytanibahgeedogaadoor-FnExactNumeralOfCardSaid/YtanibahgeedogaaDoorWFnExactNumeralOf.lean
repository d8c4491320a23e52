/- The walk of laws.FnExactNumeralOf: the program's and the reference's answers are the same; nothing that was there is changed. -/
import Derived.Test.YtanibahgeedogaaDoorNumeral
import Derived.OpenShut
namespace Go.Proofs.YtanibahgeedogaaDoor.lawFnExactNumeralOf
open Go.RowKit Go.Proofs.YtanibahgeedogaaDoor
theorem tabOf {w : World} (h : laidMetH Tryd.prog Rows.fnExactNumeralOfRow.laid w) : Tab w := by
  rw [MakeChecks.laidMetH_plain _ _ _ (by kernel_rfl)] at h
  exact tab_third h
set_option maxHeartbeats 800000 in
theorem walk (a0 : Int) (w : World) (w0 : (Lit.int .i64 a0).wf = true) (hL : laidMetH Tryd.prog Rows.fnExactNumeralOfRow.laid w) :
    Calls Tryd.prog 3 #[.int .i64 a0] w fun e w' => e = .returned (.bool true) ∧ Below w.heap.size w w' := by
  have b0 := bounds_i64 w0
  have HT := Lib.hid (tabOf hL)
  clear hL
  have hs := fun W => s_numeralOf a0 W b0
  have hi := fun W hT => i_numeralOf a0 W b0 hT
  obtain ⟨o, ho⟩ : ∃ o, o = numeralO a0 := ⟨_, rfl⟩
  rw [← ho] at hs hi
  cases o with
  | none =>
    have HS := Lib.hid hs
    have HI := Lib.hid hi
    clear hs hi ho
    go_enter Tryd.func3, Tryd.ntmps3
    go_wp2_with fail
    refine (HS.out _).mono ?_
    rintro e w1 ⟨he, hb1⟩
    obtain rfl : e = .returned (.tuple #[.string ⟨#[]⟩, .bool false]) := he
    go_wp2_with fail
    refine (HI.out _ (HT.out.below hb1)).mono ?_
    rintro e w2 ⟨he, hb2⟩
    obtain rfl : e = .returned (.tuple #[.string ⟨#[]⟩, .bool false]) := he
    go_wp2_with fail
    go_ret
    exact ⟨rfl, hb1.trans (hb2.mono hb1.size)⟩
  | some x =>
    have HS := Lib.hid hs
    have HI := Lib.hid hi
    clear hs hi ho
    go_enter Tryd.func3, Tryd.ntmps3
    go_wp2_with fail
    refine (HS.out _).mono ?_
    rintro e w1 ⟨he, hb1⟩
    obtain rfl : e = .returned (.tuple #[.string x, .bool true]) := he
    go_wp2_with fail
    refine (HI.out _ (HT.out.below hb1)).mono ?_
    rintro e w2 ⟨he, hb2⟩
    obtain rfl : e = .returned (.tuple #[.string x, .bool true]) := he
    go_wp2_with fail
    go_ret
    exact ⟨rfl, hb1.trans (hb2.mono hb1.size)⟩
end Go.Proofs.YtanibahgeedogaaDoor.lawFnExactNumeralOf
