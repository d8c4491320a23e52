/- The drawings of transcripts of adding. -/
import Derived.Test.YtpnondeaiinccaaDoorColsA
namespace Go.Proofs.YtpnondeaiinccaaDoor
open Go.RowKit
set_option linter.unusedVariables false
set_option maxRecDepth 100000
theorem s_drawWrittenOf (a : Option Addr) (len cap : Nat) (zs : List Int) (w : World) (h : IsBytes w a len cap zs) (hl : len ≤ 1048576) :
    Calls Tryd.prog 51 #[.slice a len cap] w (ColsPost w) := by
  go_enter Tryd.func51, Tryd.ntmps51
  go_wp2_with fail
  refine (s_open a len cap zs _ h hl).mono ?_
  rintro e w1 ⟨R, rfl, hR, hr, hb⟩
  go_wp2_with fail
  refine (s_columns R 0 5 _ hr (by omega) (by omega) (by omega)).mono ?_
  rintro e w2 hd
  obtain ⟨v, cs, rfl, hcl, hm, hbb⟩ := hd.cols hb hR
  go_wp2_with fail
  go_ret
  exact ⟨v, cs, rfl, hcl, hm, hbb⟩
theorem s_drawOnTranscript (a : Option Addr) (len cap : Nat) (zs : List Int) (w : World) (h : IsBytes w a len cap zs) (hl : len ≤ 1048576) :
    Calls Tryd.prog 28 #[.slice a len cap] w (ColsPost w) := by
  go_enter Tryd.func28, Tryd.ntmps28
  go_wp2_with fail
  refine (s_open a len cap zs _ h hl).mono ?_
  rintro e w1 ⟨R, rfl, hR, hr, hb⟩
  go_wp2_with fail
  refine (s_columns R 0 5 _ hr (by omega) (by omega) (by omega)).mono ?_
  rintro e w2 hd
  obtain ⟨v, cs, rfl, hcl, hm, hbb⟩ := hd.cols hb hR
  go_wp2_with fail
  go_ret
  exact ⟨v, cs, rfl, hcl, hm, hbb⟩
end Go.Proofs.YtpnondeaiinccaaDoor
