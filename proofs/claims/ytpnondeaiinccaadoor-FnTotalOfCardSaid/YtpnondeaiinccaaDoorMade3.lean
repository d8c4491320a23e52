/- Walks of the functions that make transcripts: AddedOf, RowOf of the reference. -/
import Derived.Test.YtpnondeaiinccaaDoorMade
import Derived.Test.YtpnondeaiinccaaDoorDec
namespace Go.Proofs.YtpnondeaiinccaaDoor
open Go.RowKit
set_option linter.unusedVariables false
set_option maxRecDepth 100000
theorem s_digitAtN (s : ByteArray) (k : Nat) (w : World) (hs : s.size ≤ maxLen) (hn : numOkS s = true) (h1 : (k : Int) ≤ 9223372036854775807) :
    Calls Tryd.prog 78 #[.string s, .int .i64 k] w fun e w' => e = .returned (.int .i64 (dAtS s k : Int)) ∧ w = w' := by
  have h := s_digitAt s k w hs h1
  rw [digitAtI_ok hn (by omega), Int.toNat_natCast] at h
  exact h
theorem addCol_eq (s t : ByteArray) (k : Nat) : addCol s t k = ⟨(dAtS s k : Int), (dAtS t k : Int), addCarry s t k, ((dAtS s k : Int) + (dAtS t k : Int) + addCarry s t k) % 10, ((dAtS s k : Int) + (dAtS t k : Int) + addCarry s t k) / 10⟩ := rfl
theorem rowCol_eq (s : ByteArray) (d : Int) (k : Nat) : rowCol s d k = ⟨(dAtS s k : Int), d, rowCar s d k, ((dAtS s k : Int) * d + rowCar s d k) % 10, ((dAtS s k : Int) * d + rowCar s d k) / 10⟩ := rfl
theorem addedL_len (s t : ByteArray) : (addedL s t).length ≤ 9 := by
  unfold addedL
  split
  · rename_i h
    have h1 := numOkS_size h.1
    have h2 := numOkS_size h.2
    rw [seqTo_length]; omega
  · simp
theorem rowL_len (s : ByteArray) (d : Int) : (rowL s d).length ≤ 9 := by
  unfold rowL
  split
  · rename_i h
    have h1 := numOkS_size h.1
    rw [seqTo_length]; omega
  · simp
set_option maxHeartbeats 3200000 in
theorem s_addedOf (s t : ByteArray) (w : World) (hs : s.size ≤ maxLen) (ht : t.size ≤ maxLen) :
    Calls Tryd.prog 33 #[.string s, .string t] w fun e w' => ∃ v, e = .returned v ∧ OwnCols w' w.heap.size v (addedL s t) ∧ Below w.heap.size w w' := by
  by_cases hn : numOkS s = true
  · by_cases hm : numOkS t = true
    · have hz := numOkS_size hn
      have hy := numOkS_size hm
      have H := Lib.hid (addedL_ok hn hm)
      have HN := Lib.hid hn
      have HM := Lib.hid hm
      obtain ⟨i0, hi0, hz0, hz1, hz2⟩ := info_parts info_col
      by_cases hst : s.size < t.size
      all_goals
        go_enter Tryd.func33, Tryd.ntmps33
        go_wp2_with (go_at_call 77; refine (s_numeralOk _ _ (by first | exact hs | exact ht)).mono ?_; rintro e w' ⟨rfl, rfl⟩)
        go_loopw [5, 6, 7, 8, 9] (fun o c i _ _ wr => ∃ k : Nat, k ≤ max s.size t.size ∧ i = .int .i64 k ∧ c = .int .i64 (addCarry s t k) ∧ OwnCols wr w.heap.size o (seqTo (addCol s t) k) ∧ Below w.heap.size w wr) (fun _ _ i _ _ _ => max s.size t.size - (intOf i).toNat)
        case atStart => exact ⟨0, Nat.zero_le _, rfl, rfl, OwnCols.empty _, (Below.refl _ _).alloc (Nat.le_refl _) _⟩
        case round =>
          obtain ⟨k, hk, rfl, rfl, hown, hb⟩ := hrel
          clear hn hm
          by_cases hlt : k < max s.size t.size
          · have d1 := dAtS_le HN.out k
            have d2 := dAtS_le HM.out k
            have d3 := addCarry_bd HN.out HM.out k
            go_wp2_with (first | (go_at_call 78; refine (s_digitAtN _ _ _ (by first | exact hs | exact ht) (by first | exact HN.out | exact HM.out) (by omega)).mono ?_; rintro e w' ⟨rfl, rfl⟩) | (at_builtin; refine wpList_append_own _ rfl _ _ 33 rfl w.heap.size 44 i0 (.agg #[.int .i64 0, .int .i64 0, .int .i64 0, .int .i64 0, .int .i64 0]) 5 40 Tryd.underlying33 hi0 hz0 hz1 hz2 rfl (by decide) _ _ _ rfl (OwnCols.below hown ?cb) _ 1 1 (addCol s t k).cells rfl rfl ?c1 ?c2 ?c3 ?c4 ?c5 ?_))
            case cb => exact ((Below.refl _ _).alloc (Nat.le_refl _) _).alloc (by simp) _
            case c1 => exact col_last rfl (by simp)
            case c2 => exact col_one _ _ _ _ _
            case c3 => exact own_long (by omega)
            case c4 => exact own_bytes (by omega)
            case c5 => have := hb.size; simp; omega
            · intro v' w1 hown' hgrow _
              have R1 := Lib.hid (own_step' rfl hown')
              have R2 := Lib.hid (below_append ((hb.alloc hb.size _).alloc (by have := hb.size; simp; omega) _) (OwnCols.below hown (((Below.refl _ _).alloc (Nat.le_refl _) _).alloc (by simp) _)) hgrow (by have := hb.size; simp; omega))
              clear hown' hgrow hown hb
              go_wp2
              go_roundw
              case rel => exact ⟨k + 1, by omega, by go_num, rfl, R1.out, R2.out⟩
              case measure => simp [intOf]; omega
          · obtain rfl : k = max s.size t.size := by omega
            have HOWN := Lib.hid hown
            clear hown
            go_wp2_with fail
            go_ret
            exact ⟨_, rfl, by rw [H.out]; exact HOWN.out, hb⟩
    · have hm' := ne_true hm
      have H := Lib.hid (addedL_bad2 (s := s) hm')
      clear hm
      go_enter Tryd.func33, Tryd.ntmps33
      go_wp2_with (go_at_call 77; refine (s_numeralOk _ _ (by first | exact hs | exact ht)).mono ?_; rintro e w' ⟨rfl, rfl⟩)
      go_ret
      exact ⟨_, rfl, by rw [H.out]; exact OwnCols.empty _, (Below.refl _ _).alloc (Nat.le_refl _) _⟩
  · have hn' := ne_true hn
    have H := Lib.hid (addedL_bad1 (t := t) hn')
    clear hn
    go_enter Tryd.func33, Tryd.ntmps33
    go_wp2_with (go_at_call 77; refine (s_numeralOk _ _ (by first | exact hs | exact ht)).mono ?_; rintro e w' ⟨rfl, rfl⟩)
    go_ret
    exact ⟨_, rfl, by rw [H.out]; exact OwnCols.empty _, (Below.refl _ _).alloc (Nat.le_refl _) _⟩
end Go.Proofs.YtpnondeaiinccaaDoor
