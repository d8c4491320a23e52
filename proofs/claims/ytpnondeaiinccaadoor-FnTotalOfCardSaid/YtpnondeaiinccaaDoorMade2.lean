/- Walk of impl.TakenOf. -/
import Derived.Test.YtpnondeaiinccaaDoorMade
import Derived.Test.YtpnondeaiinccaaDoorOrder2
import Derived.Test.YtpnondeaiinccaaDoorOrder
namespace Go.Proofs.YtpnondeaiinccaaDoor
open Go.RowKit
set_option linter.unusedVariables false
set_option maxRecDepth 100000
def takenL (s t : ByteArray) : List Col := if 0 ≤ orderI s t then seqTo (takeCol s t) s.size else []
theorem takenL_no {s t : ByteArray} (h : orderI s t < 0) : takenL s t = [] := by unfold takenL; rw [if_neg (by omega)]
theorem takenL_ok {s t : ByteArray} (h : 0 ≤ orderI s t) : takenL s t = seqTo (takeCol s t) s.size := by unfold takenL; rw [if_pos h]
theorem order_nums {s t : ByteArray} (h : 0 ≤ orderI s t) : numOkS s = true ∧ numOkS t = true ∧ t.size ≤ s.size := by
  by_cases h1 : numOkS s = true
  · by_cases h2 : numOkS t = true
    · refine ⟨h1, h2, ?_⟩
      rcases Nat.lt_or_ge s.size t.size with h3 | h3
      · rw [orderI_lt h1 h2 h3] at h; omega
      · exact h3
    · rw [orderI_bad2 (ne_true h2)] at h; omega
  · rw [orderI_bad1 (ne_true h1)] at h; omega
theorem takeCol_neg {s t : ByteArray} {k : Nat} (h : (dAtS s k : Int) - (dAtS t k : Int) - takeBor s t k < 0) : takeCol s t k = ⟨(dAtS s k : Int), (dAtS t k : Int), takeBor s t k, (dAtS s k : Int) - (dAtS t k : Int) - takeBor s t k + 10, 1⟩ := by
  unfold takeCol; rw [takeDig_one h, takeBor_one h]
theorem takeCol_pos {s t : ByteArray} {k : Nat} (h : ¬ (dAtS s k : Int) - (dAtS t k : Int) - takeBor s t k < 0) : takeCol s t k = ⟨(dAtS s k : Int), (dAtS t k : Int), takeBor s t k, (dAtS s k : Int) - (dAtS t k : Int) - takeBor s t k, 0⟩ := by
  unfold takeCol; rw [takeDig_no h, takeBor_no h]
set_option maxHeartbeats 3200000 in
theorem i_takenOf (s t : ByteArray) (w : World) (hs : s.size ≤ maxLen) (ht : t.size ≤ maxLen) :
    Calls Tryd.prog 36 #[.string s, .string t] w fun e w' => ∃ v, e = .returned v ∧ Mut w' w.heap.size v (takenL s t) ∧ Below w.heap.size w w' := by
  by_cases ho : orderI s t < 0
  · have H := Lib.hid (takenL_no ho)
    go_enter Tryd.func36, Tryd.ntmps36
    go_wp2_with (go_at_call 38; refine (i_orderOf _ _ _ hs ht).mono ?_; rintro e w' ⟨rfl, rfl⟩)
    go_ret
    exact ⟨_, rfl, by rw [H.out]; exact mut_nil _ _, Below.refl _ _⟩
  · have H := Lib.hid (takenL_ok (s := s) (t := t) (by omega))
    obtain ⟨h1, h2, h3⟩ := order_nums (s := s) (t := t) (by omega)
    have hz := numOkS_size h1
    have HN := Lib.hid h1
    have HM := Lib.hid h2
    obtain ⟨i0, hi0, hz0, hz1, hz2⟩ := info_parts info_col
    clear h1 h2
    go_enter Tryd.func36, Tryd.ntmps36
    go_wp2_with (go_at_call 38; refine (i_orderOf _ _ _ hs ht).mono ?_; rintro e w' ⟨rfl, rfl⟩)
    go_loopw [5, 6, 7, 8, 15] (fun o c _ _ i wr => ∃ k : Nat, k ≤ s.size ∧ i = .int .i64 k ∧ c = .int .i64 (takeBor s t k) ∧ OwnCols wr w.heap.size o (seqTo (takeCol s t) k) ∧ Below w.heap.size w wr) (fun _ _ _ _ i _ => s.size - (intOf i).toNat)
    case atStart => exact ⟨0, Nat.zero_le _, rfl, rfl, OwnCols.nil _ _, Below.refl _ _⟩
    case round =>
      obtain ⟨k, hk, rfl, rfl, hown, hb⟩ := hrel
      by_cases hlt : k < s.size
      · have d1 := dAtS_le HN.out k
        have d2 := dAtS_le HM.out k
        have d3 := takeBor_bd s t k
        by_cases hneg : (dAtS s k : Int) - (dAtS t k : Int) - takeBor s t k < 0
        · have E := Lib.hid (takeCol_neg hneg)
          have E2 := Lib.hid (takeBor_one hneg)
          go_wp2_with (first | (go_at_call 60; refine (i_digit _ _ _ (by first | exact HN.out | exact HM.out) (by omega) (by omega)).mono ?_; rintro e w' ⟨rfl, rfl⟩) | (at_builtin; refine wpList_append_own _ rfl _ _ 33 rfl w.heap.size 44 i0 (.agg #[.int .i64 0, .int .i64 0, .int .i64 0, .int .i64 0, .int .i64 0]) 5 40 Tryd.underlying33 hi0 hz0 hz1 hz2 rfl (by decide) _ _ _ rfl (OwnCols.below hown ?cb) _ 1 1 (Col.cells ⟨(dAtS s k : Int), (dAtS t k : Int), takeBor s t k, (dAtS s k : Int) - (dAtS t k : Int) - takeBor s t k + 10, 1⟩) rfl rfl ?c1 ?c2 ?c3 ?c4 ?c5 ?_))
          case cb => exact ((Below.refl _ _).alloc (Nat.le_refl _) _).alloc (by simp) _
          case c1 => exact col_last rfl (by simp)
          case c2 => exact col_one _ _ _ _ _
          case c3 => exact own_long (by omega)
          case c4 => exact own_bytes (by omega)
          case c5 => have := hb.size; simp; omega
          · intro v' w1 hown' hgrow _
            have R1 := Lib.hid (own_step' E.out hown')
            have R2 := Lib.hid (below_append ((hb.alloc hb.size _).alloc (by have := hb.size; simp; omega) _) (OwnCols.below hown (((Below.refl _ _).alloc (Nat.le_refl _) _).alloc (by simp) _)) hgrow (by have := hb.size; simp; omega))
            clear hown' hgrow hown hb
            go_wp2
            go_roundw
            case rel => exact ⟨k + 1, by omega, by go_num, by rw [E2.out], R1.out, R2.out⟩
            case measure => simp [intOf]; omega
        · have E := Lib.hid (takeCol_pos hneg)
          have E2 := Lib.hid (takeBor_no hneg)
          go_wp2_with (first | (go_at_call 60; refine (i_digit _ _ _ (by first | exact HN.out | exact HM.out) (by omega) (by omega)).mono ?_; rintro e w' ⟨rfl, rfl⟩) | (at_builtin; refine wpList_append_own _ rfl _ _ 33 rfl w.heap.size 44 i0 (.agg #[.int .i64 0, .int .i64 0, .int .i64 0, .int .i64 0, .int .i64 0]) 5 40 Tryd.underlying33 hi0 hz0 hz1 hz2 rfl (by decide) _ _ _ rfl (OwnCols.below hown ?cb) _ 1 1 (Col.cells ⟨(dAtS s k : Int), (dAtS t k : Int), takeBor s t k, (dAtS s k : Int) - (dAtS t k : Int) - takeBor s t k, 0⟩) rfl rfl ?c1 ?c2 ?c3 ?c4 ?c5 ?_))
          case cb => exact ((Below.refl _ _).alloc (Nat.le_refl _) _).alloc (by simp) _
          case c1 => exact col_last rfl (by simp)
          case c2 => exact col_one _ _ _ _ _
          case c3 => exact own_long (by omega)
          case c4 => exact own_bytes (by omega)
          case c5 => have := hb.size; simp; omega
          · intro v' w1 hown' hgrow _
            have R1 := Lib.hid (own_step' E.out hown')
            have R2 := Lib.hid (below_append ((hb.alloc hb.size _).alloc (by have := hb.size; simp; omega) _) (OwnCols.below hown (((Below.refl _ _).alloc (Nat.le_refl _) _).alloc (by simp) _)) hgrow (by have := hb.size; simp; omega))
            clear hown' hgrow hown hb
            go_wp2
            go_roundw
            case rel => exact ⟨k + 1, by omega, by go_num, by rw [E2.out], R1.out, R2.out⟩
            case measure => simp [intOf]; omega
      · obtain rfl : k = s.size := by omega
        obtain ⟨A, n, c, rfl, hnc, hcm, hmut⟩ := own_caps hown
        have HMT := Lib.hid hmut
        clear hmut hown
        go_wp2_with (go_at_call 76; refine (l_clip _ _ _ _ hnc hcm).mono ?_; rintro e w' ⟨rfl, rfl⟩)
        go_ret
        exact ⟨_, rfl, by rw [H.out]; exact HMT.out, hb⟩
end Go.Proofs.YtpnondeaiinccaaDoor
