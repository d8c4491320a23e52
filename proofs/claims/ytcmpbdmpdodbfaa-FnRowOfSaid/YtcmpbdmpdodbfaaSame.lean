/- Walk of sameColumns at two equal transcripts; the drawings of a row. -/
import Derived.Test.YtcmpbdmpdodbfaaOpen
import Derived.Test.YtcmpbdmpdodbfaaMut
import Derived.Test.YtcmpbdmpdodbfaaLaw1
namespace Go.Proofs.Ytcmpbdmpdodbfaa
open Go.RowKit
set_option linter.unusedVariables false
set_option maxRecDepth 100000
set_option maxHeartbeats 3200000 in
theorem l_same (v u : Value) (cs : List Col) (w : World) (hv : Cols w w.heap.size v cs) (hu : Cols w w.heap.size u cs) (hl : cs.length ≤ 1048576) :
    Calls Try.prog 14 #[v, u] w fun e w' => e = .returned (.bool true) ∧ Below w.heap.size w w' := by
  obtain ⟨A, cap, rfl, hc⟩ := hv
  obtain ⟨A2, cap2, rfl, hc2⟩ := hu
  have HC := Lib.hid hc
  have HC2 := Lib.hid hc2
  clear hc hc2
  go_enter Try.func14, Try.ntmps14
  go_wp2
  go_loopw [5] (fun i wr => ∃ k : Nat, k ≤ cs.length ∧ i = .int .i64 k ∧ Below w.heap.size w wr) (fun i _ => cs.length - (intOf i).toNat)
  case atStart => exact ⟨0, Nat.zero_le _, rfl, Below.refl _ _⟩
  case round =>
    obtain ⟨k, hk, rfl, hb⟩ := hrel
    by_cases hlt : k < cs.length
    · obtain ⟨g, rfl, hg, hcell⟩ := HC.out (fun e => by rw [e] at hlt; simp at hlt)
      obtain ⟨g', rfl, hg', hcell'⟩ := HC2.out (fun e => by rw [e] at hlt; simp at hlt)
      obtain ⟨c, hck⟩ : ∃ c, cs[k]? = some c := ⟨_, List.getElem?_eq_getElem hlt⟩
      obtain ⟨h0, h1, h2, h3, h4⟩ := (hcell k c hck).below hg hb
      obtain ⟨q0, q1, q2, q3, q4⟩ := (hcell' k c hck).below hg' hb
      have hi1 : (k : Int) < (cs.length : Int) := by omega
      have hi0 : (0 : Int) ≤ (k : Int) := by omega
      clear hck hcell hcell'
      go_wp2
      go_quiet (fail)
      go_wp2
      go_roundw
      case rel => exact ⟨k + 1, by omega, by go_num, ⟨hb.os, hb.tape, hb.output, hb.size, hb.block⟩⟩
      case measure => simp [intOf]; omega
    · obtain rfl : k = cs.length := by omega
      go_wp2
      go_ret
      exact ⟨rfl, hb⟩
def RowPost (w : World) (e : Ending) (w' : World) : Prop := ∃ (t : ByteArray) (d : Int), t.size ≤ 11 ∧ -10 ≤ d ∧ d ≤ 20 ∧ e = .returned (.tuple #[.string t, .int .i64 d]) ∧ Below w.heap.size w w'
set_option maxHeartbeats 1600000 in
theorem s_drawRowOf (a : Option Addr) (len cap : Nat) (zs : List Int) (w : World) (h : IsBytes w a len cap zs) (hl : len ≤ 1048576) :
    Calls Try.prog 12 #[.slice a len cap] w (RowPost w) := by
  go_enter Try.func12, Try.ntmps12
  go_wp2_with fail
  refine (s_open a len cap zs _ h hl).mono ?_
  rintro e w1 ⟨R, rfl, hR, hr, hb⟩
  go_wp2_with fail
  refine (s_numeral R 0 _ _ _ hr (by omega) (by omega) (by omega) (by omega) (by omega)).mono ?_
  rintro e w2 ⟨t, p', ht, rfl, hp', hr2, ho2⟩
  go_wp2_with fail
  refine (s_pickI R _ 11 _ hr2 (by omega) (by omega) (by omega)).mono ?_
  rintro e w3 ⟨k1, hk1, rfl, hr3, ho3⟩
  go_wp2_with fail
  refine (s_pickI R _ 20 _ hr3 (by omega) (by omega) (by omega)).mono ?_
  rintro e w4 ⟨k2, hk2, rfl, hr4, ho4⟩
  have e1 : (k2 : Int).tdiv 19 = (k2 : Int) / 19 := Int.tdiv_eq_ediv_of_nonneg (by omega)
  go_wp2_with fail
  go_ret2
  exact ⟨t, _, ht, by omega, by omega, rfl, hb.trans (((ho2.trans ho3).trans ho4).below_ hb.size hR)⟩
end Go.Proofs.Ytcmpbdmpdodbfaa
