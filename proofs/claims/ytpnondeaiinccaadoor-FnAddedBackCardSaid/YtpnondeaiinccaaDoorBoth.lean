/- The drawings of two texts: nothing is said of them but that they are short. -/
import Derived.Test.YtpnondeaiinccaaDoorOpen
namespace Go.Proofs.YtpnondeaiinccaaDoor
open Go.RowKit
set_option linter.unusedVariables false
set_option maxRecDepth 100000
def BothPost (R p : Nat) (w : World) (e : Ending) (w' : World) : Prop := ∃ (s t : ByteArray) (p' : Nat), s.size ≤ 11 ∧ t.size ≤ 11 ∧ e = .returned (.tuple #[.string s, .string t]) ∧ p' ≤ p + 141 ∧ Rdr w' R p' ∧ Only R w w'
set_option maxHeartbeats 1600000 in
theorem s_both (R p : Nat) (most : Int) (w : World) (hr : Rdr w R p) (hm1 : 1 ≤ most) (hm2 : most ≤ 9) (hp : p ≤ 40000) :
    Calls Tryd.prog 58 #[.pointer (some ⟨R, 0, none⟩), .int .i64 most] w (BothPost R p w) := by
  go_enter Tryd.func58, Tryd.ntmps58
  go_wp2_with fail
  refine (s_numeral R p most 16 _ hr hm1 hm2 (by omega) (by omega) (by omega)).mono ?_
  rintro e w1 ⟨s, p1, hs, rfl, hp1, hr1, ho1⟩
  go_wp2_with fail
  refine (s_numeral R p1 most 16 _ hr1 hm1 hm2 (by omega) (by omega) (by omega)).mono ?_
  rintro e w2 ⟨t, p2, ht, rfl, hp2, hr2, ho2⟩
  go_wp2_with fail
  refine (s_pickI R p2 6 _ hr2 (by omega) (by omega) (by omega)).mono ?_
  rintro e w3 ⟨k, hk, rfl, hr3, ho3⟩
  by_cases h0 : k = 0
  · have t0 : ((k : Int) == 0) = true := by simp [h0]
    clear h0
    go_wp2_with fail
    go_ret2
    exact ⟨s, s, p2 + 1, hs, hs, rfl, by omega, hr3, (ho1.trans ho2).trans ho3⟩
  · have t0 : ((k : Int) == 0) = false := by rw [beq_eq_false_iff_ne]; omega
    clear h0
    go_wp2_with fail
    go_ret2
    exact ⟨s, t, p2 + 1, hs, ht, rfl, by omega, hr3, (ho1.trans ho2).trans ho3⟩
def TwoPost (w : World) (e : Ending) (w' : World) : Prop := ∃ (s t : ByteArray), s.size ≤ 11 ∧ t.size ≤ 11 ∧ e = .returned (.tuple #[.string s, .string t]) ∧ Below w.heap.size w w'
set_option maxHeartbeats 800000 in
theorem s_drawAddedOf (a : Option Addr) (len cap : Nat) (zs : List Int) (w : World) (h : IsBytes w a len cap zs) (hl : len ≤ 1048576) :
    Calls Tryd.prog 30 #[.slice a len cap] w (TwoPost w) := by
  go_enter Tryd.func30, Tryd.ntmps30
  go_wp2_with fail
  refine (s_open a len cap zs _ h hl).mono ?_
  rintro e w1 ⟨R, rfl, hR, hr, hb⟩
  go_wp2_with fail
  refine (s_both R 0 _ _ hr (by omega) (by omega) (by omega)).mono ?_
  rintro e w2 ⟨s, t, p', hs, ht, rfl, hp', hr2, ho2⟩
  go_wp2_with fail
  go_ret2
  exact ⟨s, t, hs, ht, rfl, hb.trans (ho2.below_ hb.size hR)⟩
set_option maxHeartbeats 800000 in
theorem s_drawSumOf (a : Option Addr) (len cap : Nat) (zs : List Int) (w : World) (h : IsBytes w a len cap zs) (hl : len ≤ 1048576) :
    Calls Tryd.prog 18 #[.slice a len cap] w (TwoPost w) := by
  go_enter Tryd.func18, Tryd.ntmps18
  go_wp2_with fail
  refine (s_open a len cap zs _ h hl).mono ?_
  rintro e w1 ⟨R, rfl, hR, hr, hb⟩
  go_wp2_with fail
  refine (s_both R 0 _ _ hr (by omega) (by omega) (by omega)).mono ?_
  rintro e w2 ⟨s, t, p', hs, ht, rfl, hp', hr2, ho2⟩
  go_wp2_with fail
  go_ret2
  exact ⟨s, t, hs, ht, rfl, hb.trans (ho2.below_ hb.size hR)⟩
end Go.Proofs.YtpnondeaiinccaaDoor
