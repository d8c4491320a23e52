/- Walks of ChecksOut of the program and of the reference. -/
import Derived.Test.YtanibahgeedogaaNine
namespace Go.Proofs.Ytanibahgeedogaa
open Go.RowKit
set_option linter.unusedVariables false
def checksB (s t p : ByteArray) : Bool :=
  numOkS s && numOkS t && numOkS p && decide (nineI s * nineI t % 9 = nineI p) && decide (elevenI s * elevenI t % 11 = elevenI p)
theorem nineI_bd {s : ByteArray} (h : numOkS s = true) : 0 ≤ nineI s ∧ nineI s ≤ 8 := by rw [nineI_ok h]; omega
theorem elevenI_bd {s : ByteArray} (h : numOkS s = true) : 0 ≤ elevenI s ∧ elevenI s ≤ 10 := by rw [elevenI_ok h]; omega
theorem mul_bd {a b m : Int} (ha : 0 ≤ a ∧ a ≤ m) (hb : 0 ≤ b ∧ b ≤ m) (hm : m ≤ 10) : 0 ≤ a * b ∧ a * b ≤ 100 := by
  refine ⟨Int.mul_nonneg ha.1 hb.1, ?_⟩
  have h1 : a * b ≤ 10 * b := Int.mul_le_mul_of_nonneg_right (by omega) hb.1
  omega
theorem rem_hid {P m : Int} (h : 0 ≤ P) (hm : 0 < m) : P.tmod m = P % m := Int.tmod_eq_emod_of_nonneg h
section
variable (s t p : ByteArray) (w : World) (hs : s.size ≤ maxLen) (ht : t.size ≤ maxLen) (hp : p.size ≤ maxLen)
include hs ht hp
set_option maxHeartbeats 1600000 in
theorem i_checksOut : Calls Try.prog 11 #[.string s, .string t, .string p] w fun e w' => e = .returned (.bool (checksB s t p)) ∧ w = w' := by
  by_cases h1 : numOkS s = true
  · by_cases h2 : numOkS t = true
    · by_cases h3 : numOkS p = true
      · have b9 := mul_bd (nineI_bd h1) (nineI_bd h2) (by omega)
        have b11 := mul_bd (elevenI_bd h1) (elevenI_bd h2) (by omega)
        have E : checksB s t p = (decide (nineI s * nineI t % 9 = nineI p) && decide (elevenI s * elevenI t % 11 = elevenI p)) := by unfold checksB; rw [h1, h2, h3]; simp
        have H := Lib.hid E
        clear E
        have q1 := nineI_bd h1
        have q2 := nineI_bd h2
        have q3 := elevenI_bd h1
        have q4 := elevenI_bd h2
        have f1 : IntKind.i64.wrap (nineI s * nineI t) = nineI s * nineI t := IntWalk.i64_in _ (by omega)
        have f2 : IntKind.i64.wrap (elevenI s * elevenI t) = elevenI s * elevenI t := IntWalk.i64_in _ (by omega)
        have f3 : (nineI s * nineI t).tmod 9 = nineI s * nineI t % 9 := rem_hid (by omega) (by omega)
        have f4 : (elevenI s * elevenI t).tmod 11 = elevenI s * elevenI t % 11 := rem_hid (by omega) (by omega)
        clear b9 b11 q1 q2 q3 q4
        by_cases g9 : (nineI s * nineI t % 9 == nineI p) = true
        · have G9 := Lib.hid g9
          go_enter Try.func11, Try.ntmps11
          go_wp2_with (first | (go_at_call 32; refine (i_numeralOk _ _ (by first | exact hs | exact ht | exact hp)).mono ?_; rintro e w' ⟨rfl, rfl⟩) | (go_at_call 33; refine (i_nineOf _ _ (by first | exact hs | exact ht | exact hp)).mono ?_; rintro e w' ⟨rfl, rfl⟩) | (go_at_call 34; refine (i_elevenOf _ _ (by first | exact hs | exact ht | exact hp)).mono ?_; rintro e w' ⟨rfl, rfl⟩))
          go_ret
          exact ⟨ret_bool (by rw [H.out]; have := G9.out; simp only [beq_iff_eq] at this; simp [this, Bool.beq_eq_decide_eq]), rfl⟩
        · have g9' := ne_true g9
          have G9 := Lib.hid g9'
          clear g9
          go_enter Try.func11, Try.ntmps11
          go_wp2_with (first | (go_at_call 32; refine (i_numeralOk _ _ (by first | exact hs | exact ht | exact hp)).mono ?_; rintro e w' ⟨rfl, rfl⟩) | (go_at_call 33; refine (i_nineOf _ _ (by first | exact hs | exact ht | exact hp)).mono ?_; rintro e w' ⟨rfl, rfl⟩) | (go_at_call 34; refine (i_elevenOf _ _ (by first | exact hs | exact ht | exact hp)).mono ?_; rintro e w' ⟨rfl, rfl⟩))
          go_ret
          exact ⟨ret_bool (by rw [H.out]; have := G9.out; simp only [beq_eq_false_iff_ne] at this; simp [this]), rfl⟩
      · have h3' := ne_true h3
        have H := Lib.hid (show checksB s t p = false by unfold checksB; rw [h3']; simp)
        clear h3
        go_enter Try.func11, Try.ntmps11
        go_wp2_with (go_at_call 32; refine (i_numeralOk _ _ (by first | exact hs | exact ht | exact hp)).mono ?_; rintro e w' ⟨rfl, rfl⟩)
        go_ret
        exact ⟨ret_bool H.out.symm, rfl⟩
    · have h2' := ne_true h2
      have H := Lib.hid (show checksB s t p = false by unfold checksB; rw [h2']; simp)
      clear h2
      go_enter Try.func11, Try.ntmps11
      go_wp2_with (go_at_call 32; refine (i_numeralOk _ _ (by first | exact hs | exact ht | exact hp)).mono ?_; rintro e w' ⟨rfl, rfl⟩)
      go_ret
      exact ⟨ret_bool H.out.symm, rfl⟩
  · have h1' := ne_true h1
    have H := Lib.hid (show checksB s t p = false by unfold checksB; rw [h1']; simp)
    clear h1
    go_enter Try.func11, Try.ntmps11
    go_wp2_with (go_at_call 32; refine (i_numeralOk _ _ (by first | exact hs | exact ht | exact hp)).mono ?_; rintro e w' ⟨rfl, rfl⟩)
    go_ret
    exact ⟨ret_bool H.out.symm, rfl⟩
set_option maxHeartbeats 1600000 in
theorem s_checksOut : Calls Try.prog 10 #[.string s, .string t, .string p] w fun e w' => e = .returned (.bool (checksB s t p)) ∧ Below w.heap.size w w' := by
  by_cases h1 : numOkS s = true
  · by_cases h2 : numOkS t = true
    · by_cases h3 : numOkS p = true
      · have b9 := mul_bd (nineI_bd h1) (nineI_bd h2) (by omega)
        have b11 := mul_bd (elevenI_bd h1) (elevenI_bd h2) (by omega)
        have E : checksB s t p = (decide (nineI s * nineI t % 9 = nineI p) && decide (elevenI s * elevenI t % 11 = elevenI p)) := by unfold checksB; rw [h1, h2, h3]; simp
        have H := Lib.hid E
        clear E
        have q1 := nineI_bd h1
        have q2 := nineI_bd h2
        have q3 := elevenI_bd h1
        have q4 := elevenI_bd h2
        have f1 : IntKind.i64.wrap (nineI s * nineI t) = nineI s * nineI t := IntWalk.i64_in _ (by omega)
        have f2 : IntKind.i64.wrap (elevenI s * elevenI t) = elevenI s * elevenI t := IntWalk.i64_in _ (by omega)
        have f3 : (nineI s * nineI t).tmod 9 = nineI s * nineI t % 9 := rem_hid (by omega) (by omega)
        have f4 : (elevenI s * elevenI t).tmod 11 = elevenI s * elevenI t % 11 := rem_hid (by omega) (by omega)
        clear b9 b11 q1 q2 q3 q4
        go_enter Try.func10, Try.ntmps10
        go_wp2_with (go_at_call 29; refine (s_numeralOk _ _ (by first | exact hs | exact ht | exact hp)).mono ?_; rintro e w' ⟨rfl, rfl⟩)
        refine (s_nineOf _ _ hs).mono ?_
        rintro e w1 ⟨rfl, b1⟩
        go_wp2_with fail
        refine (s_nineOf _ _ ht).mono ?_
        rintro e w2 ⟨rfl, b2⟩
        have b2' := b1.trans (b2.mono b1.size)
        go_wp2_with fail
        refine (s_nineOf _ _ hp).mono ?_
        rintro e w3 ⟨rfl, b3⟩
        have b3' := b2'.trans (b3.mono b2'.size)
        by_cases g9 : (nineI s * nineI t % 9 == nineI p) = true
        · have G9 := Lib.hid g9
          go_wp2_with (go_at_call 31; refine (s_elevenOf _ _ (by first | exact hs | exact ht | exact hp)).mono ?_; rintro e w' ⟨rfl, rfl⟩)
          go_ret
          exact ⟨ret_bool (by rw [H.out]; have := G9.out; simp only [beq_iff_eq] at this; simp [this, Bool.beq_eq_decide_eq]), b3'⟩
        · have g9' := ne_true g9
          have G9 := Lib.hid g9'
          clear g9
          go_wp2_with fail
          go_ret
          exact ⟨ret_bool (by rw [H.out]; have := G9.out; simp only [beq_eq_false_iff_ne] at this; simp [this]), b3'⟩
      · have h3' := ne_true h3
        have H := Lib.hid (show checksB s t p = false by unfold checksB; rw [h3']; simp)
        clear h3
        go_enter Try.func10, Try.ntmps10
        go_wp2_with (go_at_call 29; refine (s_numeralOk _ _ (by first | exact hs | exact ht | exact hp)).mono ?_; rintro e w' ⟨rfl, rfl⟩)
        go_ret
        exact ⟨ret_bool H.out.symm, Below.refl _ _⟩
    · have h2' := ne_true h2
      have H := Lib.hid (show checksB s t p = false by unfold checksB; rw [h2']; simp)
      clear h2
      go_enter Try.func10, Try.ntmps10
      go_wp2_with (go_at_call 29; refine (s_numeralOk _ _ (by first | exact hs | exact ht | exact hp)).mono ?_; rintro e w' ⟨rfl, rfl⟩)
      go_ret
      exact ⟨ret_bool H.out.symm, Below.refl _ _⟩
  · have h1' := ne_true h1
    have H := Lib.hid (show checksB s t p = false by unfold checksB; rw [h1']; simp)
    clear h1
    go_enter Try.func10, Try.ntmps10
    go_wp2_with (go_at_call 29; refine (s_numeralOk _ _ (by first | exact hs | exact ht | exact hp)).mono ?_; rintro e w' ⟨rfl, rfl⟩)
    go_ret
    exact ⟨ret_bool H.out.symm, Below.refl _ _⟩
end
end Go.Proofs.Ytanibahgeedogaa
