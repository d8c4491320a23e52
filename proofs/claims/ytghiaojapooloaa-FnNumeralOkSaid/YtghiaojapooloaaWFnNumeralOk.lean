/- The walk of laws.FnNumeralOk: whatever is drawn, the law answers true; nothing that was there is changed. -/
import Derived.Test.YtghiaojapooloaaOpen
import Derived.OpenShut
namespace Go.Proofs.Ytghiaojapooloaa.lawFnNumeralOk
open Go.RowKit Go.Proofs.Ytghiaojapooloaa
set_option linter.unusedVariables false
theorem z_ahead {s : ByteArray} (h : 1 ≤ s.size) : numOkS (⟨#[48]⟩ ++ s) = false := by
  have hs : (⟨#[48]⟩ ++ s : ByteArray).size = 1 + s.size := by rw [ByteArray.size_append]; rfl
  refine numOkS_nought (by omega) ?_
  rw [ByteArray.getElem_append_left (by show 0 < 1; omega)]
  rfl
theorem z_cut {s : ByteArray} (h : numOkS s = true) (h1 : s.size ≠ 1) : numOkS (s.extract 0 (s.size - 1)) = true := by
  have hz := numOkS_size h
  have hl : s.data.toList.length = s.size := size_toList s
  have e : (s.extract 0 (s.size - 1)).data.toList = s.data.toList.take (s.size - 1) := by
    rw [ByteArray.data_extract, Array.toList_extract]
    show (List.drop 0 s.data.toList).take (s.size - 1 - 0) = _
    simp
  unfold numOkS numOk at h ⊢
  simp only [Bool.and_eq_true, Bool.or_eq_true, Bool.not_eq_true', decide_eq_true_eq] at h
  obtain ⟨⟨ha, _, _⟩, hh⟩ := h
  rw [e]
  have hlen : (s.data.toList.take (s.size - 1)).length = s.size - 1 := by rw [List.length_take]; omega
  have hhd : (s.data.toList.take (s.size - 1)).head? = s.data.toList.head? := by
    match s.data.toList, hl with
    | [], hl => simp at hl; omega
    | b :: r, hl =>
      have : s.size - 1 = (s.size - 2) + 1 := by omega
      rw [this]; rfl
  rcases hh with hh | hh
  · rw [hhd, hh, hlen]
    have : (s.data.toList.take (s.size - 1)).all isD = true := by
      rw [List.all_eq_true] at ha ⊢
      exact fun x hx => ha x (List.mem_of_mem_take hx)
    rw [this]; simp; omega
  · rw [hl] at hh; exact absurd hh h1
set_option maxRecDepth 100000 in
set_option maxHeartbeats 1600000 in
theorem walk (a0 : Option Addr) (len0 cap0 : Nat) (z0 : List Int) (w : World) (w0 : IsBytes w a0 len0 cap0 z0) :
    Calls Try.prog 9 #[.slice a0 len0 cap0] w fun e w' => e = .returned (.bool true) ∧ Below w.heap.size w w' := by
  by_cases hl : 1048576 < len0
  · go_enter Try.func9, Try.ntmps9
    go_wp2_with fail
    go_ret
    exact ⟨rfl, Below.refl _ _⟩
  · go_enter Try.func9, Try.ntmps9
    go_wp2_with fail
    refine (s_drawNumeralOk a0 len0 cap0 z0 _ w0 (by omega)).mono ?_
    rintro e w1 ⟨t, ht, rfl, hb⟩
    have hts : t.size ≤ maxLen := by unfold maxLen; omega
    have hts2 : (⟨#[48]⟩ ++ t : ByteArray).size ≤ maxLen := by rw [ByteArray.size_append]; show 1 + t.size ≤ maxLen; unfold maxLen; omega
    have hts3 : (t.extract 0 (t.size - 1)).size ≤ maxLen := by rw [ByteArray.size_extract]; unfold maxLen; omega
    have t1 : numOkS ⟨#[48]⟩ = true := rfl
    have hs1 : ByteArray.size ⟨#[48]⟩ ≤ maxLen := by decide
    by_cases h0 : t.size = 0
    · have hn : numOkS t = false := numOkS_empty h0
      have u0 : ((t.size : Int) == 0) = true := by simp [h0]
      clear h0
      go_wp2_with (first | (go_at_call 16; refine (i_numeralOk _ _ (by first | exact hs1 | exact hts)).mono ?_; rintro e w' ⟨rfl, rfl⟩) | (go_at_call 15; refine (s_numeralOk _ _ hts).mono ?_; rintro e w' ⟨rfl, rfl⟩) | (go_at_call 26; refine (l_alive _).mono ?_; rintro e w' ⟨rfl, rfl⟩))
      go_ret
      exact ⟨rfl, hb⟩
    · have u0 : ((t.size : Int) == 0) = false := by rw [beq_eq_false_iff_ne]; omega
      have n1 := z_ahead (s := t) (by omega)
      by_cases hn : numOkS t = true
      · by_cases h1 : t.size = 1
        · have u1 : ((t.size : Int) == 1) = true := by simp [h1]
          clear h0 h1
          go_wp2_with (first | (go_at_call 16; refine (i_numeralOk _ _ (by first | exact hs1 | exact hts | exact hts2)).mono ?_; rintro e w' ⟨rfl, rfl⟩) | (go_at_call 15; refine (s_numeralOk _ _ hts).mono ?_; rintro e w' ⟨rfl, rfl⟩) | (go_at_call 26; refine (l_alive _).mono ?_; rintro e w' ⟨rfl, rfl⟩))
          go_ret
          exact ⟨rfl, hb⟩
        · have u1 : ((t.size : Int) == 1) = false := by rw [beq_eq_false_iff_ne]; omega
          have n2 := z_cut hn h1
          have hp : 1 ≤ t.size := by omega
          clear h0 h1
          go_wp2_with (first | (go_at_call 16; refine (i_numeralOk _ _ (by first | exact hs1 | exact hts | exact hts2 | exact hts3)).mono ?_; rintro e w' ⟨rfl, rfl⟩) | (go_at_call 15; refine (s_numeralOk _ _ hts).mono ?_; rintro e w' ⟨rfl, rfl⟩) | (go_at_call 26; refine (l_alive _).mono ?_; rintro e w' ⟨rfl, rfl⟩))
          go_ret
          exact ⟨rfl, hb⟩
      · have hn' := ne_true hn
        clear h0 hn
        go_wp2_with (first | (go_at_call 16; refine (i_numeralOk _ _ (by first | exact hs1 | exact hts | exact hts2)).mono ?_; rintro e w' ⟨rfl, rfl⟩) | (go_at_call 15; refine (s_numeralOk _ _ hts).mono ?_; rintro e w' ⟨rfl, rfl⟩) | (go_at_call 26; refine (l_alive _).mono ?_; rintro e w' ⟨rfl, rfl⟩))
        go_ret
        exact ⟨rfl, hb⟩
end Go.Proofs.Ytghiaojapooloaa.lawFnNumeralOk
