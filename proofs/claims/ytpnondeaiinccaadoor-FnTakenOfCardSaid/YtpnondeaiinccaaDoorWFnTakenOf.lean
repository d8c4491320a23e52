/- The walk of laws.FnTakenOf: whatever is drawn, the law answers true; nothing that was there is changed. -/
import Derived.Test.YtpnondeaiinccaaDoorCols0
import Derived.Test.YtpnondeaiinccaaDoorSame
import Derived.Test.YtpnondeaiinccaaDoorLaw9
import Derived.Test.YtpnondeaiinccaaDoorOrder2
import Derived.Test.YtpnondeaiinccaaDoorTrans
import Derived.OpenShut
namespace Go.Proofs.YtpnondeaiinccaaDoor.lawFnTakenOf
open Go.RowKit Go.Proofs.YtpnondeaiinccaaDoor
set_option linter.unusedVariables false
set_option maxRecDepth 100000 in
set_option maxHeartbeats 3200000 in
theorem walk (a0 : Option Addr) (len0 cap0 : Nat) (z0 : List Int) (w : World) (w0 : IsBytes w a0 len0 cap0 z0) :
    Calls Tryd.prog 8 #[.slice a0 len0 cap0] w fun e w' => e = .returned (.bool true) ∧ Below w.heap.size w w' := by
  by_cases hl : 1048576 < len0
  · go_enter Tryd.func8, Tryd.ntmps8
    go_wp2_with fail
    go_ret
    exact ⟨rfl, Below.refl _ _⟩
  · go_enter Tryd.func8, Tryd.ntmps8
    go_wp2_with fail
    refine (s_drawTakenOf a0 len0 cap0 z0 _ w0 (by omega)).mono ?_
    rintro e w1 ⟨s, t, hs, ht, rfl, hb1⟩
    have hss : s.size ≤ maxLen := by unfold maxLen; omega
    have hts : t.size ≤ maxLen := by unfold maxLen; omega
    have hlen := takenL_len s t
    obtain ⟨cs, hcs⟩ : ∃ cs, cs = takenL s t := ⟨_, rfl⟩
    have hl9 : cs.length ≤ 9 := by rw [hcs]; exact hlen
    have hlb : cs.length ≤ 1048576 := by omega
    have HCS := Lib.hid hcs
    go_wp2_with fail
    refine (i_takenOf s t _ hss hts).mono ?_
    rintro e w2 ⟨v, rfl, m2, b2⟩
    rw [← HCS.out] at m2
    have b2' := hb1.trans (b2.mono hb1.size)
    go_wp2_with fail
    refine (s_takenOf s t _ hss hts).mono ?_
    rintro e w3 ⟨u, rfl, o3, b3⟩
    rw [← HCS.out] at o3
    have b3' := b2'.trans (b3.mono b2'.size)
    have m3 := m2.below b3
    go_wp2_with fail
    refine (l_same _ _ cs _ m3.cols (OwnCols.cols o3) hlb).mono ?_
    rintro e w4 ⟨rfl, b4⟩
    have b4' := b3'.trans (b4.mono b3'.size)
    have c4 := (m3.below b4).cols
    clear m2 m3 o3 b2 b3 b4 b2' b3' hcs hlen
    obtain ⟨A, cap, hvv, hc⟩ := id c4
    subst hvv
    by_cases hne : cs = []
    · have h0 : cs.length = 0 := by rw [hne]; rfl
      have t0 : ((cs.length : Int) == 0) = true := by simp [h0]
      have ho : orderI s t < 0 := by
        rcases Int.lt_or_le (orderI s t) 0 with h | h
        · exact h
        · exact absurd (HCS.out.symm.trans hne) (taken_ne h)
      clear h0 hne c4 hc
      go_wp2_with fail
      refine (i_orderOf s t _ hss hts).mono ?_
      rintro e w5 ⟨rfl, n5, rfl⟩
      go_wp2_with (go_at_call 16; refine (l_alive _).mono ?_; rintro e w' ⟨rfl, rfl⟩)
      go_ret
      exact ⟨rfl, b4'⟩
    · have t0 : ((cs.length : Int) == 0) = false := by
        rw [beq_eq_false_iff_ne]
        intro e
        exact hne (List.eq_nil_of_length_eq_zero (by omega))
      have n1 := taken_nil (s := s) (t := t) (by rw [← HCS.out]; exact hne)
      have HTR := Lib.hid (taken_trans n1)
      have HW := Lib.hid (taken_wrong n1)
      have HLN := Lib.hid (taken_len n1)
      have HC4 := Lib.hid c4
      have tss : (s.toList == s.toList) = true := by simp
      have tts : (t.toList == t.toList) = true := by simp
      have t1 : (wTake cs == -1) = true := by rw [HCS.out, HW.out]; rfl
      have tm : ((cs.length : Int) == (s.size : Int)) = true := by rw [beq_iff_eq, HCS.out, HLN.out]
      have TM := Lib.hid tm
      clear hne hc c4 n1 tm
      go_wp2_with fail
      refine (i_onTranscript _ cs _ HC4.out hlb).mono ?_
      rintro e w5 ⟨he, b5⟩
      have he2 : e = .returned (.tuple #[.string s, .string t, .bool true]) := by
        rw [he, HCS.out]
        unfold transE
        rw [HTR.out.1, HTR.out.2.1, HTR.out.2.2]
      subst he2
      clear he
      have b5' := b4'.trans (b5.mono b4'.size)
      have HC5 := Lib.hid ((HC4.out.below b5).more b5.size)
      go_wp2_with (go_at_call 39; refine (i_wrongTaken _ cs _ HC5.out hlb).mono ?_; rintro e w6 ⟨rfl, b6⟩)
      go_ret
      exact ⟨ret_bool TM.out, b5'.trans (b6.mono b5'.size)⟩
end Go.Proofs.YtpnondeaiinccaaDoor.lawFnTakenOf
