/- Walks of MovedBy of the program and of the reference. -/
import Derived.Test.YthddidjdgbdlbaaDoorStrOk
import Derived.LoopTactic
import Derived.Lib.Repeat
import Derived.Test.YthddidjdgbdlbaaDoorShelf
namespace Go.Proofs.YthddidjdgbdlbaaDoor
open Go.RowKit
set_option linter.unusedVariables false
def z0 : ByteArray := ⟨#[48]⟩
def addZ (s : ByteArray) (k : Nat) : ByteArray := ⟨(s.data.toList ++ List.replicate k 48).toArray⟩
theorem addZ_zero (s : ByteArray) : addZ s 0 = s := by apply ByteArray.ext; simp [addZ]
theorem ba_app (a b : List UInt8) : (⟨a.toArray⟩ : ByteArray) ++ ⟨b.toArray⟩ = ⟨(a ++ b).toArray⟩ := by
  apply ByteArray.ext
  simp
theorem ba_list (s : ByteArray) : (⟨s.data.toList.toArray⟩ : ByteArray) = s := rfl
theorem addZ_succ (s : ByteArray) (k : Nat) : addZ s k ++ ⟨#[48]⟩ = addZ s (k + 1) := by
  have e : List.replicate (k + 1) (48 : UInt8) = List.replicate k 48 ++ [48] := by rw [List.replicate_succ']
  unfold addZ
  rw [e, ← List.append_assoc]
  exact ba_app _ [48]
theorem addZ_size (s : ByteArray) (k : Nat) : (addZ s k).size = s.size + k := by
  show (s.data.toList ++ List.replicate k 48).toArray.size = _
  rw [List.size_toArray, List.length_append, List.length_replicate, size_toList]
theorem rep48 (k : Nat) : Lib.repeatL (ByteArray.mk #[48]).data.toList k = List.replicate k 48 := by
  induction k with
  | zero => rfl
  | succ k ih => rw [Lib.repeatL, ih]; rfl
theorem rep48_size (k : Nat) : ByteArray.size ⟨(Lib.repeatL (ByteArray.mk #[48]).data.toList k).toArray⟩ = k := by
  rw [rep48]
  show (List.replicate k (48 : UInt8)).toArray.size = k
  simp
theorem addZ_rep (s : ByteArray) (k : Nat) : s ++ ⟨(Lib.repeatL (ByteArray.mk #[48]).data.toList k).toArray⟩ = addZ s k := by
  rw [rep48]
  exact ba_app s.data.toList _
theorem addZ_ok {s : ByteArray} (h : numOkS s = true) (hz : s ≠ z0) (k : Nat) : numOkS (addZ s k) = decide (s.size + k ≤ 9) := by
  have hs := numOkS_size h
  unfold numOkS numOk at h
  simp only [Bool.and_eq_true, Bool.or_eq_true, Bool.not_eq_true', decide_eq_true_eq] at h
  obtain ⟨⟨ha, h1, h9⟩, hh⟩ := h
  have e : (addZ s k).data.toList = s.data.toList ++ List.replicate k 48 := by simp [addZ]
  have hl : s.data.toList.length = s.size := size_toList s
  unfold numOkS numOk
  rw [e]
  have hrep : (List.replicate k (48 : UInt8)).all isD = true := by
    rw [List.all_eq_true]; intro x hx; rw [(List.mem_replicate.1 hx).2]; rfl
  have hne : s.data.toList.head? ≠ some 48 := by
    intro hc
    rcases hh with hh | hh
    · rw [hc] at hh; simp at hh
    · apply hz
      apply ByteArray.ext
      apply Array.toList_inj.1
      match hm : s.data.toList, hh with
      | [b], _ => rw [hm] at hc; simp at hc; rw [hc]; rfl
  have hhd : (s.data.toList ++ List.replicate k 48).head? = s.data.toList.head? := by
    rw [List.head?_append]
    cases hq : s.data.toList.head? with
    | none => rw [List.head?_eq_none_iff] at hq; rw [hq] at hl; simp at hl; omega
    | some b => rfl
  rw [List.all_append, ha, hrep, hhd, List.length_append, List.length_replicate, hl]
  have : (s.data.toList.head? == some 48) = false := by simpa using hne
  rw [this]
  simp
  omega
def movedO (s : ByteArray) (p : Int) : Option ByteArray :=
  if numOkS s = true ∧ 0 ≤ p then (if s = z0 then some s else if s.size + p.toNat ≤ 9 then some (addZ s p.toNat) else none) else none
theorem movedO_bad {s : ByteArray} {p : Int} (h : numOkS s = false) : movedO s p = none := by unfold movedO; rw [if_neg (by simp [h])]
theorem movedO_neg {s : ByteArray} {p : Int} (h : p < 0) : movedO s p = none := by unfold movedO; rw [if_neg (by omega)]
theorem z0_of {s : ByteArray} (h : (s.toList == [48]) = true) : s = z0 := by
  apply ByteArray.ext
  apply Array.toList_inj.1
  rw [ByteArray.toList_eq] at h
  exact eq_of_beq h
theorem z0_not {s : ByteArray} (h : (s.toList == [48]) = false) : s ≠ z0 := by
  rintro rfl
  rw [ByteArray.toList_eq] at h
  simp [z0] at h
theorem movedO_zero {s : ByteArray} {p : Int} (hz : s = z0) (h : 0 ≤ p) : movedO s p = some s := by subst hz; unfold movedO; rw [if_pos ⟨rfl, h⟩, if_pos rfl]
theorem movedO_far {s : ByteArray} {p : Int} (hz : s ≠ z0) (h : 9 < s.size + p.toNat) : movedO s p = none := by
  unfold movedO
  split
  · rw [if_neg (by omega)]
  · rfl
theorem movedO_ok {s : ByteArray} {p : Int} (hn : numOkS s = true) (hz : s ≠ z0) (h0 : 0 ≤ p) (h : s.size + p.toNat ≤ 9) : movedO s p = some (addZ s p.toNat) := by
  unfold movedO; rw [if_pos ⟨hn, h0⟩, if_neg hz, if_pos h]
set_option maxHeartbeats 1600000 in
theorem i_movedBy (s : ByteArray) (p : Int) (w : World) (hs : s.size ≤ maxLen) (hp : -9223372036854775808 ≤ p ∧ p ≤ 9223372036854775807) :
    Calls Tryd.prog 53 #[.string s, .int .i64 p] w fun e w' => e = strOk (movedO s p) ∧ Below w.heap.size w w' := by
  unfold maxLen at hs
  by_cases h1 : numOkS s = true
  · by_cases h2 : p < 0
    · have H := Lib.hid (strOk_none (movedO_neg (s := s) h2))
      go_enter Tryd.func53, Tryd.ntmps53
      go_wp2_with (go_at_call 25; refine (i_numeralOk _ _ hs).mono ?_; rintro e w' ⟨rfl, rfl⟩)
      go_ret2
      exact ⟨H.out, Below.refl _ _⟩
    · by_cases h3 : (s.toList == [48]) = true
      · have H := Lib.hid (strOk_some (movedO_zero (z0_of h3) (p := p) (by omega)) rfl)
        go_enter Tryd.func53, Tryd.ntmps53
        go_wp2_with (go_at_call 25; refine (i_numeralOk _ _ hs).mono ?_; rintro e w' ⟨rfl, rfl⟩)
        go_ret2
        exact ⟨H.out, Below.refl _ _⟩
      · have hz := numOkS_size h1
        have h3' := ne_true h3
        have hne := z0_not h3'
        by_cases h4 : 9 < s.size + p.toNat
        · have H := Lib.hid (strOk_none (movedO_far hne h4))
          have h5 : (9 : Int) - s.size < p := by omega
          clear h4 h3 hne
          go_enter Tryd.func53, Tryd.ntmps53
          go_wp2_with (go_at_call 25; refine (i_numeralOk _ _ hs).mono ?_; rintro e w' ⟨rfl, rfl⟩)
          go_ret2
          exact ⟨H.out, Below.refl _ _⟩
        · obtain ⟨k, rfl⟩ : ∃ k : Nat, p = k := ⟨p.toNat, by omega⟩
          have h5 : ¬ (9 : Int) - s.size < k := by omega
          have H := Lib.hid (strOk_some (movedO_ok h1 hne (p := (k : Int)) (by omega) (by omega)) (addZ_rep s k))
          have hk : k ≤ 9 := by omega
          have hrs := rep48_size k
          clear h4 h3 hne
          go_enter Tryd.func53, Tryd.ntmps53
          go_wp2_with (first | (go_at_call 25; refine (i_numeralOk _ _ hs).mono ?_; rintro e w' ⟨rfl, rfl⟩) | (go_at_call 79; refine (Tryd.strings_Repeat _ _ _ (by omega) (by show 1 * k ≤ _; omega)).mono ?_; rintro e w1 ⟨rfl, hb1⟩))
          go_outline
          go_ret2
          exact ⟨H.out, hb1⟩
  · have h1' := ne_true h1
    have H := Lib.hid (strOk_none (movedO_bad (p := p) h1'))
    clear h1
    go_enter Tryd.func53, Tryd.ntmps53
    go_wp2_with (go_at_call 25; refine (i_numeralOk _ _ hs).mono ?_; rintro e w' ⟨rfl, rfl⟩)
    go_ret2
    exact ⟨H.out, Below.refl _ _⟩
set_option maxHeartbeats 1600000 in
theorem s_movedBy (s : ByteArray) (p : Int) (w : World) (hs : s.size ≤ maxLen) (hp : -9223372036854775808 ≤ p ∧ p ≤ 9223372036854775807) :
    Calls Tryd.prog 54 #[.string s, .int .i64 p] w fun e w' => e = strOk (movedO s p) ∧ Below w.heap.size w w' := by
  unfold maxLen at hs
  by_cases h1 : numOkS s = true
  · by_cases h2 : p < 0
    · have H := Lib.hid (strOk_none (movedO_neg (s := s) h2))
      go_enter Tryd.func54, Tryd.ntmps54
      go_wp2_with (go_at_call 58; refine (s_numeralOk _ _ hs).mono ?_; rintro e w' ⟨rfl, rfl⟩)
      go_ret2
      exact ⟨H.out, Below.refl _ _⟩
    · by_cases h3 : (s.toList == [48]) = true
      · have H := Lib.hid (strOk_some (movedO_zero (z0_of h3) (p := p) (by omega)) rfl)
        by_cases h4 : 9 < p
        all_goals
          go_enter Tryd.func54, Tryd.ntmps54
          go_wp2_with (go_at_call 58; refine (s_numeralOk _ _ hs).mono ?_; rintro e w' ⟨rfl, rfl⟩)
          go_loop [6, 7] (fun o k => o = .string s ∧ k = .int .i64 0) (fun _ _ => 0)
          case atStart => exact ⟨rfl, rfl⟩
          case round =>
            obtain ⟨rfl, rfl⟩ := hrel
            go_wp2_with (go_at_call 58; refine (s_numeralOk _ _ hs).mono ?_; rintro e w' ⟨rfl, rfl⟩)
            all_goals
              go_ret2
              exact ⟨H.out, Below.refl _ _⟩
      · have hz := numOkS_size h1
        have h3' := ne_true h3
        have hne := z0_not h3'
        by_cases h4 : 9 < p
        · have H := Lib.hid (strOk_none (movedO_far hne (show 9 < s.size + p.toNat by omega)))
          clear h3 hne
          go_enter Tryd.func54, Tryd.ntmps54
          go_wp2_with (go_at_call 58; refine (s_numeralOk _ _ hs).mono ?_; rintro e w' ⟨rfl, rfl⟩)
          go_ret2
          exact ⟨H.out, Below.refl _ _⟩
        · obtain ⟨n, rfl⟩ : ∃ n : Nat, p = n := ⟨p.toNat, by omega⟩
          have hn9 : n ≤ 9 := by omega
          have HN := Lib.hid (addZ_ok h1 hne n)
          have HS := Lib.hid fun k => addZ_size s k
          by_cases h5 : s.size + n ≤ 9
          · have H := Lib.hid (strOk_some (movedO_ok h1 hne (p := (n : Int)) (by omega) (by omega)) rfl)
            have HT := Lib.hid (HN.out.trans (decide_eq_true h5))
            clear h3 hne h4
            go_enter Tryd.func54, Tryd.ntmps54
            go_wp2_with (go_at_call 58; refine (s_numeralOk _ _ hs).mono ?_; rintro e w' ⟨rfl, rfl⟩)
            go_loop [6, 7] (fun o k => ∃ j : Nat, j ≤ n ∧ k = .int .i64 j ∧ o = .string (addZ s j)) (fun _ k => n - (intOf k).toNat)
            case atStart => exact ⟨0, Nat.zero_le _, rfl, by rw [addZ_zero]⟩
            case round =>
              obtain ⟨j, hj, rfl, rfl⟩ := hrel
              have hsz := HS.out j
              have hsm : (addZ s j).size ≤ maxLen := by rw [hsz]; unfold maxLen; omega
              by_cases hlt : j < n
              · have E := Lib.hid (addZ_succ s j)
                go_wp2
                go_round
                case rel => exact ⟨j + 1, by omega, by go_num, by rw [E.out]⟩
                case measure => simp [intOf]; omega
              · obtain rfl : j = n := by omega
                have t1 := HT.out
                go_wp2_with (go_at_call 58; refine (s_numeralOk _ _ hsm).mono ?_; rintro e w' ⟨rfl, rfl⟩)
                go_ret2
                exact ⟨H.out, Below.refl _ _⟩
          · have H := Lib.hid (strOk_none (movedO_far hne (show 9 < s.size + (n : Int).toNat by omega)))
            have HT := Lib.hid (HN.out.trans (decide_eq_false h5))
            clear h3 hne h4
            go_enter Tryd.func54, Tryd.ntmps54
            go_wp2_with (go_at_call 58; refine (s_numeralOk _ _ hs).mono ?_; rintro e w' ⟨rfl, rfl⟩)
            go_loop [6, 7] (fun o k => ∃ j : Nat, j ≤ n ∧ k = .int .i64 j ∧ o = .string (addZ s j)) (fun _ k => n - (intOf k).toNat)
            case atStart => exact ⟨0, Nat.zero_le _, rfl, by rw [addZ_zero]⟩
            case round =>
              obtain ⟨j, hj, rfl, rfl⟩ := hrel
              have hsz := HS.out j
              have hsm : (addZ s j).size ≤ maxLen := by rw [hsz]; unfold maxLen; omega
              by_cases hlt : j < n
              · have E := Lib.hid (addZ_succ s j)
                go_wp2
                go_round
                case rel => exact ⟨j + 1, by omega, by go_num, by rw [E.out]⟩
                case measure => simp [intOf]; omega
              · obtain rfl : j = n := by omega
                have t1 := HT.out
                go_wp2_with (go_at_call 58; refine (s_numeralOk _ _ hsm).mono ?_; rintro e w' ⟨rfl, rfl⟩)
                go_ret2
                exact ⟨H.out, Below.refl _ _⟩
  · have h1' := ne_true h1
    have H := Lib.hid (strOk_none (movedO_bad (p := p) h1'))
    clear h1
    go_enter Tryd.func54, Tryd.ntmps54
    go_wp2_with (go_at_call 58; refine (s_numeralOk _ _ hs).mono ?_; rintro e w' ⟨rfl, rfl⟩)
    go_ret2
    exact ⟨H.out, Below.refl _ _⟩
end Go.Proofs.YthddidjdgbdlbaaDoor
