/- The walk of laws.FnExactOnTranscript: the program's and the reference's answers are the same; nothing that was there is changed. -/
import Derived.Test.YtanibahgeedogaaDoorTrans2
import Derived.Test.YtanibahgeedogaaDoorCopy
namespace Go.Proofs.YtanibahgeedogaaDoor.lawFnExactOnTranscript
open Go.RowKit Go.Proofs.YtanibahgeedogaaDoor
set_option maxHeartbeats 1600000 in
theorem walk (a0 : Option Addr) (len0 cap0 : Nat) (z0 : List Col) (w : World) (w0 : IsCols w a0 len0 cap0 z0) :
    Calls Tryd.prog 5 #[.slice a0 len0 cap0] w fun e w' => e = .returned (.bool true) ∧ Below w.heap.size w w' := by
  have hm := w0.2.1
  by_cases hl : 1048576 < len0
  · have S1 := szI_big hl
    go_enter Tryd.func5, Tryd.ntmps5
    go_wp2_with (go_at_call 12; refine (l_sz _ _ _ _ _ hm (by omega) (by omega)).mono ?_; rintro e w' ⟨rfl, rfl⟩)
    go_ret
    exact ⟨rfl, Below.refl _ _⟩
  · have hl' : len0 ≤ 1048576 := by omega
    have S1 := szI_fits hl'
    have hz : z0.length ≤ 1048576 := by rw [w0.1]; exact hl'
    go_enter Tryd.func5, Tryd.ntmps5
    go_wp2_with (go_at_call 12; refine (l_sz _ _ _ _ _ hm (by omega) (by omega)).mono ?_; rintro e w' ⟨rfl, rfl⟩)
    refine (l_toColumnS _ _ _ _ _ w0 hl').mono ?_
    rintro e w1 ⟨v1, rfl, c1, b1⟩
    go_wp2_with fail
    refine (s_onTranscript _ z0 _ c1 hz).mono ?_
    rintro e w2 ⟨he, b2⟩
    obtain rfl : e = .returned (.tuple #[.string (transT Col.a z0), .string (transT Col.b z0), .bool (transB z0)]) := he
    have b2' := b1.trans (b2.mono b1.size)
    go_wp2_with fail
    refine (l_toColumnS _ _ _ _ _ (w0.below b2') hl').mono ?_
    rintro e w3 ⟨v3, rfl, c3, b3⟩
    have b3' := b2'.trans (b3.mono b2'.size)
    go_wp2_with fail
    refine (i_onTranscript _ z0 _ c3 hz).mono ?_
    rintro e w4 ⟨he, b4⟩
    obtain rfl : e = .returned (.tuple #[.string (transT Col.a z0), .string (transT Col.b z0), .bool (transB z0)]) := he
    have b4' := b3'.trans (b4.mono b3'.size)
    have c4 := (c3.below b4).more b4.size
    go_wp2_with fail
    refine (l_toColumnS _ _ _ _ _ (w0.below b4') hl').mono ?_
    rintro e w5 ⟨v5, rfl, c5, b5⟩
    have b5' := b4'.trans (b5.mono b4'.size)
    have c45 := (c4.below b5).more b5.size
    go_wp2_with fail
    refine (l_eqColumnS _ _ z0 _ c45 c5 hz).mono ?_
    rintro e w6 ⟨rfl, b6⟩
    have b6' := b5'.trans (b6.mono b5'.size)
    go_wp2_with fail
    go_ret
    exact ⟨rfl, b6'⟩
end Go.Proofs.YtanibahgeedogaaDoor.lawFnExactOnTranscript
