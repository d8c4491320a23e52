/- The walk of laws.FnRowOf: whatever is drawn, the law answers true; nothing that was there is changed. -/
import Derived.Test.YtcmpbdmpdodbfaaSame
import Derived.Test.YtcmpbdmpdodbfaaLaw3
import Derived.Test.YtcmpbdmpdodbfaaRow1
import Derived.OpenShut
namespace Go.Proofs.Ytcmpbdmpdodbfaa.lawFnRowOf
open Go.RowKit Go.Proofs.Ytcmpbdmpdodbfaa
set_option linter.unusedVariables false
set_option maxRecDepth 100000 in
set_option maxHeartbeats 3200000 in
theorem walk (a0 : Option Addr) (len0 cap0 : Nat) (z0 : List Int) (w : World) (w0 : IsBytes w a0 len0 cap0 z0) :
    Calls Try.prog 4 #[.slice a0 len0 cap0] w fun e w' => e = .returned (.bool true) ∧ Below w.heap.size w w' := by
  by_cases hl : 1048576 < len0
  · go_enter Try.func4, Try.ntmps4
    go_wp2_with fail
    go_ret
    exact ⟨rfl, Below.refl _ _⟩
  · go_enter Try.func4, Try.ntmps4
    go_wp2_with fail
    refine (s_drawRowOf a0 len0 cap0 z0 _ w0 (by omega)).mono ?_
    rintro e w1 ⟨t, d, ht, hd0, hd1, rfl, hb1⟩
    have hts : t.size ≤ maxLen := by unfold maxLen; omega
    have hdb : -9223372036854775808 ≤ d ∧ d ≤ 9223372036854775807 := by omega
    have hlen := rowL_len t d
    obtain ⟨cs, hcs⟩ : ∃ cs, cs = rowL t d := ⟨_, rfl⟩
    have hl9 : cs.length ≤ 9 := by rw [hcs]; exact hlen
    have hlb : cs.length ≤ 1048576 := by omega
    have HCS := Lib.hid hcs
    go_wp2_with fail
    refine (i_rowOf t d _ hts hdb).mono ?_
    rintro e w2 ⟨v, rfl, m2, b2⟩
    rw [← HCS.out] at m2
    have b2' := hb1.trans (b2.mono hb1.size)
    go_wp2_with fail
    refine (s_rowOf t d _ hts hdb).mono ?_
    rintro e w3 ⟨u, rfl, o3, b3⟩
    rw [← HCS.out] at o3
    have b3' := b2'.trans (b3.mono b2'.size)
    have m3 := m2.below b3
    go_wp2_with fail
    refine (l_same _ _ cs _ m3.cols (OwnCols.cols o3) hlb).mono ?_
    rintro e w4 ⟨rfl, b4⟩
    have b4' := b3'.trans (b4.mono b3'.size)
    have c4 := (m3.below b4).cols
    clear m2 m3 o3 b2 b3 b4 b2' b3' hcs hlen
    obtain ⟨A, cap, hvv, hc⟩ := id c4
    subst hvv
    by_cases hne : cs = []
    · have h0 : cs.length = 0 := by rw [hne]; rfl
      have t0 : ((cs.length : Int) == 0) = true := by simp [h0]
      clear h0 hne
      go_wp2_with (go_at_call 11; refine (l_alive _).mono ?_; rintro e w' ⟨rfl, rfl⟩)
      go_ret
      exact ⟨rfl, b4'⟩
    · have hpos : 0 < cs.length := by
        rcases Nat.eq_zero_or_pos cs.length with h | h
        · exact absurd (List.eq_nil_of_length_eq_zero h) hne
        · exact h
      have t0 : ((cs.length : Int) == 0) = false := by rw [beq_eq_false_iff_ne]; omega
      obtain ⟨g, rfl, hg, hcell⟩ := hc hne
      have HN := Lib.hid hcell
      have HW := Lib.hid (show wRow cs = -1 ∧ cs.length = t.size ∧ ∀ c ∈ cs, c.o ≤ 8 by rw [HCS.out]; exact rowL_wrong (by rw [← HCS.out]; exact hne))
      have HC4 := Lib.hid c4
      clear hne hcell hc c4
      go_wp2_with fail
      go_loopw [6] (fun i wr => ∃ k : Nat, k ≤ cs.length ∧ i = .int .i64 k ∧ w4 = wr) (fun i _ => cs.length - (intOf i).toNat)
      case atStart => exact ⟨0, Nat.zero_le _, rfl, rfl⟩
      case round =>
        obtain ⟨k, hk, rfl, rfl⟩ := hrel
        by_cases hlt : k < cs.length
        · obtain ⟨c, hck⟩ : ∃ c, cs[k]? = some c := ⟨_, List.getElem?_eq_getElem hlt⟩
          obtain ⟨h0, h1, h2, h3, h4⟩ := HN.out k c hck
          have ho := HW.out.2.2 c (List.mem_of_getElem? hck)
          clear hck
          go_wp2_with fail
          go_roundw
          case rel => exact ⟨k + 1, by omega, by go_num, trivial⟩
          case measure => simp [intOf]; omega
        · obtain rfl : k = cs.length := by omega
          have t1 : (wRow cs == -1) = true := by rw [HW.out.1]; rfl
          have t2 : ((cs.length : Int) == (t.size : Int)) = true := by rw [HW.out.2.1]; simp
          go_wp2_with (go_at_call 9; refine (i_wrongRow _ cs _ HC4.out hlb).mono ?_; rintro e w5 ⟨rfl, b5⟩)
          go_ret
          exact ⟨rfl, b4'.trans (b5.mono b4'.size)⟩
end Go.Proofs.Ytcmpbdmpdodbfaa.lawFnRowOf
