/- Walk of sameColumns at two equal transcripts; the drawings of a row. -/
import Derived.Test.YtpnondeaiinccaaDoorOpen
import Derived.Test.YtpnondeaiinccaaDoorMut
import Derived.Test.YtpnondeaiinccaaDoorLaw1
namespace Go.Proofs.YtpnondeaiinccaaDoor
open Go.RowKit
set_option linter.unusedVariables false
set_option maxRecDepth 100000
set_option maxHeartbeats 3200000 in
theorem l_same (v u : Value) (cs : List Col) (w : World) (hv : Cols w w.heap.size v cs) (hu : Cols w w.heap.size u cs) (hl : cs.length ≤ 1048576) :
    Calls Tryd.prog 32 #[v, u] w fun e w' => e = .returned (.bool true) ∧ Below w.heap.size w w' := by
  obtain ⟨A, cap, rfl, hc⟩ := hv
  obtain ⟨A2, cap2, rfl, hc2⟩ := hu
  have HC := Lib.hid hc
  have HC2 := Lib.hid hc2
  clear hc hc2
  go_enter Tryd.func32, Tryd.ntmps32
  go_wp2
  go_loopw [5] (fun i wr => ∃ k : Nat, k ≤ cs.length ∧ i = .int .i64 k ∧ Below w.heap.size w wr) (fun i _ => cs.length - (intOf i).toNat)
  case atStart => exact ⟨0, Nat.zero_le _, rfl, Below.refl _ _⟩
  case round =>
    obtain ⟨k, hk, rfl, hb⟩ := hrel
    by_cases hlt : k < cs.length
    · obtain ⟨g, rfl, hg, hcell⟩ := HC.out (fun e => by rw [e] at hlt; simp at hlt)
      obtain ⟨g', rfl, hg', hcell'⟩ := HC2.out (fun e => by rw [e] at hlt; simp at hlt)
      obtain ⟨c, hck⟩ : ∃ c, cs[k]? = some c := ⟨_, List.getElem?_eq_getElem hlt⟩
      obtain ⟨h0, h1, h2, h3, h4⟩ := (hcell k c hck).below hg hb
      obtain ⟨q0, q1, q2, q3, q4⟩ := (hcell' k c hck).below hg' hb
      have hi1 : (k : Int) < (cs.length : Int) := by omega
      have hi0 : (0 : Int) ≤ (k : Int) := by omega
      clear hck hcell hcell'
      go_wp2
      go_quiet (fail)
      go_wp2
      go_roundw
      case rel => exact ⟨k + 1, by omega, by go_num, ⟨hb.os, hb.tape, hb.output, hb.size, hb.block⟩⟩
      case measure => simp [intOf]; omega
    · obtain rfl : k = cs.length := by omega
      go_wp2
      go_ret
      exact ⟨rfl, hb⟩
def RowPost (w : World) (e : Ending) (w' : World) : Prop := ∃ (t : ByteArray) (d : Int), t.size ≤ 11 ∧ -10 ≤ d ∧ d ≤ 20 ∧ e = .returned (.tuple #[.string t, .int .i64 d]) ∧ Below w.heap.size w w'
end Go.Proofs.YtpnondeaiinccaaDoor
