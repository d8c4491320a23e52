/- The drawings of a numeral and a number. -/
import Derived.Test.YthddidjdgbdlbaaDoorSame
namespace Go.Proofs.YthddidjdgbdlbaaDoor
open Go.RowKit
set_option linter.unusedVariables false
set_option maxRecDepth 100000
set_option maxHeartbeats 1600000 in
theorem s_drawDigitAt (a : Option Addr) (len cap : Nat) (zs : List Int) (w : World) (h : IsBytes w a len cap zs) (hl : len ≤ 1048576) :
    Calls Tryd.prog 20 #[.slice a len cap] w (RowPost w) := by
  go_enter Tryd.func20, Tryd.ntmps20
  go_wp2_with fail
  refine (s_open a len cap zs _ h hl).mono ?_
  rintro e w1 ⟨R, rfl, hR, hr, hb⟩
  go_wp2_with fail
  refine (s_numeral R 0 _ _ _ hr (by omega) (by omega) (by omega) (by omega) (by omega)).mono ?_
  rintro e w2 ⟨t, p', ht, rfl, hp', hr2, ho2⟩
  go_wp2_with fail
  refine (s_pickI R _ 12 _ hr2 (by omega) (by omega) (by omega)).mono ?_
  rintro e w3 ⟨k1, hk1, rfl, hr3, ho3⟩
  go_wp2_with fail
  go_ret2
  exact ⟨t, _, ht, by omega, by omega, rfl, hb.trans ((ho2.trans ho3).below_ hb.size hR)⟩
set_option maxHeartbeats 1600000 in
theorem s_drawMovedBy (a : Option Addr) (len cap : Nat) (zs : List Int) (w : World) (h : IsBytes w a len cap zs) (hl : len ≤ 1048576) :
    Calls Tryd.prog 52 #[.slice a len cap] w (RowPost w) := by
  go_enter Tryd.func52, Tryd.ntmps52
  go_wp2_with fail
  refine (s_open a len cap zs _ h hl).mono ?_
  rintro e w1 ⟨R, rfl, hR, hr, hb⟩
  go_wp2_with fail
  refine (s_numeral R 0 _ _ _ hr (by omega) (by omega) (by omega) (by omega) (by omega)).mono ?_
  rintro e w2 ⟨t, p', ht, rfl, hp', hr2, ho2⟩
  go_wp2_with fail
  refine (s_pickI R _ 6 _ hr2 (by omega) (by omega) (by omega)).mono ?_
  rintro e w3 ⟨k1, hk1, rfl, hr3, ho3⟩
  go_wp2_with fail
  refine (s_pickI R _ 20 _ hr3 (by omega) (by omega) (by omega)).mono ?_
  rintro e w4 ⟨k2, hk2, rfl, hr4, ho4⟩
  have e1 : (k2 : Int).tdiv 19 = (k2 : Int) / 19 := Int.tdiv_eq_ediv_of_nonneg (by omega)
  go_wp2_with fail
  go_ret2
  exact ⟨t, _, ht, by omega, by omega, rfl, hb.trans (((ho2.trans ho3).trans ho4).below_ hb.size hR)⟩
end Go.Proofs.YthddidjdgbdlbaaDoor
