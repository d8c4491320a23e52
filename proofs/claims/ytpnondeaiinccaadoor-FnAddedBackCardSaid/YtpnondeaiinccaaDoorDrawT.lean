/- The drawings of transcripts of taking away. -/
import Derived.Test.YtpnondeaiinccaaDoorColsT
namespace Go.Proofs.YtpnondeaiinccaaDoor
open Go.RowKit
set_option linter.unusedVariables false
set_option maxRecDepth 100000
theorem s_drawWrongTaken (a : Option Addr) (len cap : Nat) (zs : List Int) (w : World) (h : IsBytes w a len cap zs) (hl : len ≤ 1048576) :
    Calls Tryd.prog 40 #[.slice a len cap] w (ColsPost w) := by
  go_enter Tryd.func40, Tryd.ntmps40
  go_wp2_with fail
  refine (s_open a len cap zs _ h hl).mono ?_
  rintro e w1 ⟨R, rfl, hR, hr, hb⟩
  go_wp2_with fail
  refine (s_taken R 0 2 _ hr (by omega) (by omega) (by omega)).mono ?_
  rintro e w2 hd
  obtain ⟨v, cs, rfl, hcl, hm, hbb⟩ := hd.cols hb hR
  go_wp2_with fail
  go_ret
  exact ⟨v, cs, rfl, hcl, hm, hbb⟩
theorem s_drawLeftOf (a : Option Addr) (len cap : Nat) (zs : List Int) (w : World) (h : IsBytes w a len cap zs) (hl : len ≤ 1048576) :
    Calls Tryd.prog 23 #[.slice a len cap] w (ColsPost w) := by
  go_enter Tryd.func23, Tryd.ntmps23
  go_wp2_with fail
  refine (s_open a len cap zs _ h hl).mono ?_
  rintro e w1 ⟨R, rfl, hR, hr, hb⟩
  go_wp2_with fail
  refine (s_taken R 0 5 _ hr (by omega) (by omega) (by omega)).mono ?_
  rintro e w2 hd
  obtain ⟨v, cs, rfl, hcl, hm, hbb⟩ := hd.cols hb hR
  go_wp2_with fail
  go_ret
  exact ⟨v, cs, rfl, hcl, hm, hbb⟩
theorem s_drawAddedBack (a : Option Addr) (len cap : Nat) (zs : List Int) (w : World) (h : IsBytes w a len cap zs) (hl : len ≤ 1048576) :
    Calls Tryd.prog 45 #[.slice a len cap] w (ColsPost w) := by
  go_enter Tryd.func45, Tryd.ntmps45
  go_wp2_with fail
  refine (s_open a len cap zs _ h hl).mono ?_
  rintro e w1 ⟨R, rfl, hR, hr, hb⟩
  go_wp2_with fail
  refine (s_taken R 0 5 _ hr (by omega) (by omega) (by omega)).mono ?_
  rintro e w2 hd
  obtain ⟨v, cs, rfl, hcl, hm, hbb⟩ := hd.cols hb hR
  go_wp2_with fail
  go_ret
  exact ⟨v, cs, rfl, hcl, hm, hbb⟩
end Go.Proofs.YtpnondeaiinccaaDoor
