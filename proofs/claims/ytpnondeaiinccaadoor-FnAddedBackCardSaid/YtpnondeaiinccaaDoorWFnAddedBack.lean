/- The walk of laws.FnAddedBack: whatever is drawn, the law answers true; nothing that was there is changed. -/
import Derived.Test.YtpnondeaiinccaaDoorDrawT
import Derived.Test.YtpnondeaiinccaaDoorLaw11
import Derived.Test.YtpnondeaiinccaaDoorBack2
import Derived.Test.YtpnondeaiinccaaDoorSame
import Derived.Test.YtpnondeaiinccaaDoorTrans
import Derived.Test.YtpnondeaiinccaaDoorWritten
import Derived.Test.YtpnondeaiinccaaDoorCol4
import Derived.OpenShut
namespace Go.Proofs.YtpnondeaiinccaaDoor.lawFnAddedBack
open Go.RowKit Go.Proofs.YtpnondeaiinccaaDoor
set_option linter.unusedVariables false
set_option maxRecDepth 100000 in
set_option maxHeartbeats 3200000 in
theorem walk (a0 : Option Addr) (len0 cap0 : Nat) (z0 : List Int) (w : World) (w0 : IsBytes w a0 len0 cap0 z0) :
    Calls Tryd.prog 11 #[.slice a0 len0 cap0] w fun e w' => e = .returned (.bool true) ∧ Below w.heap.size w w' := by
  by_cases hl : 1048576 < len0
  · go_enter Tryd.func11, Tryd.ntmps11
    go_wp2_with fail
    go_ret
    exact ⟨rfl, Below.refl _ _⟩
  · go_enter Tryd.func11, Tryd.ntmps11
    go_wp2_with fail
    refine (s_drawAddedBack a0 len0 cap0 z0 _ w0 (by omega)).mono ?_
    rintro e w1 ⟨v, cs, rfl, hcl, m1, hb1⟩
    have hlb : cs.length ≤ 1048576 := by omega
    have hbl : (backL cs).length ≤ 10 := by unfold backL; split <;> simp; exact hcl
    obtain ⟨bs, hbs⟩ : ∃ bs, bs = backL cs := ⟨_, rfl⟩
    rw [← hbs] at hbl
    have hlb2 : bs.length ≤ 1048576 := by omega
    have HBS := Lib.hid hbs
    clear hbs
    go_wp2_with fail
    refine (i_addedBack v cs _ m1.cols hlb).mono ?_
    rintro e w2 ⟨x, rfl, mx, b2⟩
    rw [← HBS.out] at mx
    have m2 := m1.below b2
    have hb2 := hb1.trans (b2.mono hb1.size)
    go_wp2_with fail
    refine (s_addedBack v cs _ m2.cols hlb).mono ?_
    rintro e w3 ⟨u, rfl, o3, b3⟩
    rw [← HBS.out] at o3
    have m3 := m2.below b3
    have mx3 := mx.below b3
    have hb3 := hb2.trans (b3.mono hb2.size)
    go_wp2_with fail
    refine (l_same _ _ bs _ mx3.cols (OwnCols.cols o3) hlb2).mono ?_
    rintro e w4 ⟨rfl, b4⟩
    have hb4 := hb3.trans (b4.mono hb3.size)
    have M4 := Lib.hid (m3.below b4)
    have X4 := Lib.hid (mx3.below b4)
    clear m1 m2 m3 mx mx3 o3 b2 b3 b4 hb1 hb2 hb3
    obtain ⟨A, cap, rfl⟩ := X4.out.cols.len
    by_cases hne : bs = []
    · have h0 : bs.length = 0 := by rw [hne]; rfl
      have t0 : ((bs.length : Int) == 0) = true := by simp [h0]
      clear h0 hne
      go_wp2_with (go_at_call 16; refine (l_alive _).mono ?_; rintro e w' ⟨rfl, rfl⟩)
      go_ret
      exact ⟨rfl, hb4⟩
    · have t0 : ((bs.length : Int) == 0) = false := by
        rw [beq_eq_false_iff_ne]
        intro e
        exact hne (List.eq_nil_of_length_eq_zero (by omega))
      obtain ⟨hw, _, hwa, hcb, hB, hwr⟩ := back_facts (cs := cs) (by rw [← HBS.out]; exact hne)
      rw [← HBS.out] at hwa hcb hwr
      obtain ⟨a, ha⟩ : ∃ a, a = transT Col.a cs := ⟨_, rfl⟩
      rw [← ha] at hwr
      have htr : transE cs = .returned (.tuple #[.string a, .string (transT Col.b cs), .bool true]) := by unfold transE; rw [hB, ha]
      have ta : (a.toList == a.toList) = true := by simp
      have t1 : (wAdd bs == -1) = true := by rw [hwa]; rfl
      have t2 : (carriesI bs == borrowsI cs) = true := by rw [hcb]; simp
      have HT := Lib.hid htr
      have HWR := Lib.hid hwr
      clear hne hw hwa hcb hB hwr ha htr
      go_wp2_with fail
      refine (i_onTranscript _ cs _ M4.out.cols hlb).mono ?_
      rintro e w5 ⟨he, b5⟩
      rw [HT.out] at he
      subst he
      have M5 := Lib.hid (M4.out.below b5)
      have X5 := Lib.hid (X4.out.below b5)
      have hb5 := hb4.trans (b5.mono hb4.size)
      go_wp2_with fail
      refine (i_writtenOf _ bs _ X5.out.cols hlb2).mono ?_
      rintro e w6 ⟨he, b6⟩
      rw [HWR.out] at he
      obtain rfl : e = .returned (.tuple #[.string a, .bool true]) := he
      have M6 := Lib.hid (M5.out.below b6)
      have X6 := Lib.hid (X5.out.below b6)
      have hb6 := hb5.trans (b6.mono hb5.size)
      clear M4 X4 M5 X5 b5 b6 hb4 hb5
      go_wp2_with fail
      refine (i_wrongColumn _ bs _ X6.out.cols hlb2).mono ?_
      rintro e w7 ⟨rfl, b7⟩
      have M7 := Lib.hid (M6.out.below b7)
      have X7 := Lib.hid (X6.out.below b7)
      have hb7 := hb6.trans (b7.mono hb6.size)
      go_wp2_with fail
      refine (i_carriesIn _ bs _ X7.out.cols hlb2).mono ?_
      rintro e w8 ⟨rfl, b8⟩
      have M8 := Lib.hid (M7.out.below b8)
      have hb8 := hb7.trans (b8.mono hb7.size)
      go_wp2_with fail
      refine (i_borrowsIn _ cs _ M8.out.cols hlb).mono ?_
      rintro e w9 ⟨rfl, b9⟩
      have hb9 := hb8.trans (b9.mono hb8.size)
      go_wp2_with fail
      go_ret
      exact ⟨rfl, hb9⟩
end Go.Proofs.YtpnondeaiinccaaDoor.lawFnAddedBack
