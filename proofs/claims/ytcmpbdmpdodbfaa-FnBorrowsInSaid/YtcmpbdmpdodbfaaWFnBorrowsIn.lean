/- The walk of laws.FnBorrowsIn: whatever is drawn, the law answers true; nothing that was there is changed. -/
import Derived.Test.YtcmpbdmpdodbfaaDrawC
import Derived.Test.YtcmpbdmpdodbfaaLaw10
import Derived.Test.YtcmpbdmpdodbfaaCol4
import Derived.OpenShut
namespace Go.Proofs.Ytcmpbdmpdodbfaa.lawFnBorrowsIn
open Go.RowKit Go.Proofs.Ytcmpbdmpdodbfaa
set_option linter.unusedVariables false
theorem lastO_at : ∀ {cs : List Col} {x : Int} {c : Col}, cs[cs.length - 1]? = some c → lastO x cs = c.o
  | [], _, _, h => by simp at h
  | [d], _, c, h => by
    have e : d = c := by simpa using h
    rw [← e]; rfl
  | d :: e :: cs, x, c, h => by
    rw [lastO]
    refine lastO_at (cs := e :: cs) ?_
    simpa using h
set_option maxRecDepth 100000 in
set_option maxHeartbeats 3200000 in
theorem walk (a0 : Option Addr) (len0 cap0 : Nat) (z0 : List Int) (w : World) (w0 : IsBytes w a0 len0 cap0 z0) :
    Calls Try.prog 7 #[.slice a0 len0 cap0] w fun e w' => e = .returned (.bool true) ∧ Below w.heap.size w w' := by
  by_cases hl : 1048576 < len0
  · go_enter Try.func7, Try.ntmps7
    go_wp2_with fail
    go_ret
    exact ⟨rfl, Below.refl _ _⟩
  · go_enter Try.func7, Try.ntmps7
    go_wp2_with fail
    refine (s_drawBorrowsIn a0 len0 cap0 z0 _ w0 (by omega)).mono ?_
    rintro e w1 ⟨v, cs, rfl, hcl, m1, hb1⟩
    have hlb : cs.length ≤ 1048576 := by omega
    go_wp2_with fail
    refine (i_borrowsIn v cs _ m1.cols hlb).mono ?_
    rintro e w2 ⟨rfl, b2⟩
    have m2 := m1.below b2
    have hb2 := hb1.trans (b2.mono hb1.size)
    go_wp2_with fail
    refine (s_borrowsIn v cs _ m2.cols hlb).mono ?_
    rintro e w3 ⟨rfl, b3⟩
    have m3 := m2.below b3
    have hb3 := hb2.trans (b3.mono hb2.size)
    clear m1 m2 b2 b3 hb2 hb1
    by_cases hn : borrowsI cs < 0
    · have t1 : (borrowsI cs == -1) = true := by rw [borrows_neg hn]; rfl
      clear m3
      go_wp2_with (go_at_call 11; refine (l_alive _).mono ?_; rintro e w' ⟨rfl, rfl⟩)
      go_ret
      exact ⟨rfl, hb3⟩
    · obtain ⟨hw, hv⟩ := borrows_ge hn
      have hob := outs_bd (single_take hw)
      have n0 : 0 ≤ borrowsI cs := by omega
      have n1 : borrowsI cs ≤ 10 := by omega
      have HV := Lib.hid hv
      have HW := Lib.hid hw
      obtain ⟨A, cap, rfl, hc⟩ := m3.cols
      have HC := Lib.hid hc
      clear m3 hc hw hv hob
      go_wp2_with fail
      go_loopw [5, 6] (fun x i wr => ∃ (k : Nat) (p : Int), k ≤ cs.length ∧ i = .int .i64 k ∧ x = .int .i64 p ∧ Go.RowKit.Hid (p = sumV Col.a (cs.take k) - sumV Col.b (cs.take k) - sumV Col.d (cs.take k)) ∧ -18 * (k : Int) ≤ p ∧ p ≤ 9 * (k : Int) ∧ Below w3.heap.size w3 wr) (fun _ i _ => cs.length - (intOf i).toNat)
      case atStart => exact ⟨0, 0, Nat.zero_le _, rfl, rfl, Lib.hid rfl, by omega, by omega, Below.refl _ _⟩
      case round =>
        obtain ⟨k, p, hk, rfl, rfl, HE, p0, p1, hb⟩ := hrel
        have hbb := hb3.trans (hb.mono hb3.size)
        by_cases hlt : k < cs.length
        · obtain ⟨g, rfl, hg, hcell⟩ := HC.out (fun e => by rw [e] at hlt; simp at hlt)
          obtain ⟨c, hck⟩ : ∃ c, cs[k]? = some c := ⟨_, List.getElem?_eq_getElem hlt⟩
          obtain ⟨⟨a1, a2⟩, ⟨b1, b2⟩, _, ⟨d1, d2⟩, _⟩ := singleB_iff.1 (wTake_dig_at HW.out hck)
          obtain ⟨h0, h1, _, h3, _⟩ := (hcell k c hck).below hg hb
          have hk0 : (0 : Int) ≤ (k : Int) := by omega
          have hk1 : (k : Int) < (cs.length : Int) := by omega
          have HN := Lib.hid (show p + c.a - c.b - c.d = sumV Col.a (cs.take (k + 1)) - sumV Col.b (cs.take (k + 1)) - sumV Col.d (cs.take (k + 1)) by
            have hp := HE.out
            rw [sumV_take hck, sumV_take hck, sumV_take hck]
            omega)
          clear hck hcell
          go_wp2
          go_quiet (fail)
          go_wp2
          go_roundw
          case rel => exact ⟨k + 1, p + c.a - c.b - c.d, by omega, by go_num, rfl, HN, by omega, by omega, ⟨hb.os, hb.tape, hb.output, hb.size, hb.block⟩⟩
          case measure => simp [intOf]; omega
        · obtain rfl : k = cs.length := by omega
          have hs := borrows_sum HW.out
          have hp := HE.out
          rw [sumV_all, sumV_all, sumV_all] at hp
          have tf : (p == -9 * borrowsI cs) = true := by rw [beq_iff_eq, HV.out]; omega
          have TF := Lib.hid tf
          clear hs hp tf
          go_wp2
          go_ret
          exact ⟨ret_bool TF.out, hbb⟩
end Go.Proofs.Ytcmpbdmpdodbfaa.lawFnBorrowsIn
