/- The drawings of transcripts. -/
import Derived.Test.YtcmpbdmpdodbfaaColsA
import Derived.Test.YtcmpbdmpdodbfaaColsT
import Derived.Test.YtcmpbdmpdodbfaaColsR
import Derived.Test.YtcmpbdmpdodbfaaCols0
namespace Go.Proofs.Ytcmpbdmpdodbfaa
open Go.RowKit
set_option linter.unusedVariables false
set_option maxRecDepth 100000
theorem s_drawWrongColumn (a : Option Addr) (len cap : Nat) (zs : List Int) (w : World) (h : IsBytes w a len cap zs) (hl : len ≤ 1048576) :
    Calls Try.prog 16 #[.slice a len cap] w (ColsPost w) := by
  go_enter Try.func16, Try.ntmps16
  go_wp2_with fail
  refine (s_open a len cap zs _ h hl).mono ?_
  rintro e w1 ⟨R, rfl, hR, hr, hb⟩
  go_wp2_with fail
  refine (s_columns R 0 2 _ hr (by omega) (by omega) (by omega)).mono ?_
  rintro e w2 hd
  obtain ⟨v, cs, rfl, hcl, hm, hbb⟩ := hd.cols hb hR
  go_wp2_with fail
  go_ret
  exact ⟨v, cs, rfl, hcl, hm, hbb⟩
theorem s_drawCarriesIn (a : Option Addr) (len cap : Nat) (zs : List Int) (w : World) (h : IsBytes w a len cap zs) (hl : len ≤ 1048576) :
    Calls Try.prog 19 #[.slice a len cap] w (ColsPost w) := by
  go_enter Try.func19, Try.ntmps19
  go_wp2_with fail
  refine (s_open a len cap zs _ h hl).mono ?_
  rintro e w1 ⟨R, rfl, hR, hr, hb⟩
  go_wp2_with fail
  refine (s_columns R 0 5 _ hr (by omega) (by omega) (by omega)).mono ?_
  rintro e w2 hd
  obtain ⟨v, cs, rfl, hcl, hm, hbb⟩ := hd.cols hb hR
  go_wp2_with fail
  go_ret
  exact ⟨v, cs, rfl, hcl, hm, hbb⟩
theorem s_drawBorrowsIn (a : Option Addr) (len cap : Nat) (zs : List Int) (w : World) (h : IsBytes w a len cap zs) (hl : len ≤ 1048576) :
    Calls Try.prog 22 #[.slice a len cap] w (ColsPost w) := by
  go_enter Try.func22, Try.ntmps22
  go_wp2_with fail
  refine (s_open a len cap zs _ h hl).mono ?_
  rintro e w1 ⟨R, rfl, hR, hr, hb⟩
  go_wp2_with fail
  refine (s_taken R 0 5 _ hr (by omega) (by omega) (by omega)).mono ?_
  rintro e w2 hd
  obtain ⟨v, cs, rfl, hcl, hm, hbb⟩ := hd.cols hb hR
  go_wp2_with fail
  go_ret
  exact ⟨v, cs, rfl, hcl, hm, hbb⟩
theorem s_drawWrongRow (a : Option Addr) (len cap : Nat) (zs : List Int) (w : World) (h : IsBytes w a len cap zs) (hl : len ≤ 1048576) :
    Calls Try.prog 8 #[.slice a len cap] w (ColsPost w) := by
  go_enter Try.func8, Try.ntmps8
  go_wp2_with fail
  refine (s_open a len cap zs _ h hl).mono ?_
  rintro e w1 ⟨R, rfl, hR, hr, hb⟩
  go_wp2_with fail
  refine (s_rowDrawn R 0 2 _ hr (by omega) (by omega) (by omega)).mono ?_
  rintro e w2 hd
  obtain ⟨v, cs, rfl, hcl, hm, hbb⟩ := hd.cols hb hR
  go_wp2_with fail
  go_ret
  exact ⟨v, cs, rfl, hcl, hm, hbb⟩
end Go.Proofs.Ytcmpbdmpdodbfaa
