/- Walk of spec.TakenOf. -/
import Derived.Test.YtpnondeaiinccaaDoorMade2
import Derived.Test.YtpnondeaiinccaaDoorMade3
namespace Go.Proofs.YtpnondeaiinccaaDoor
open Go.RowKit
set_option linter.unusedVariables false
set_option maxRecDepth 100000
theorem below_drewN' {B : Nat} {a w : World} (h : Below B a w) (n : Nat) : Below B a (w.drewN n) := ⟨h.os, h.tape, h.output, h.size, h.block⟩
theorem takenL_len (s t : ByteArray) : (takenL s t).length ≤ 9 := by
  unfold takenL
  split
  · rename_i h
    have h1 := numOkS_size (order_nums h).1
    rw [seqTo_length]; omega
  · simp
set_option maxHeartbeats 3200000 in
theorem s_takenOf (s t : ByteArray) (w : World) (hs : s.size ≤ maxLen) (ht : t.size ≤ maxLen) :
    Calls Tryd.prog 37 #[.string s, .string t] w fun e w' => ∃ v, e = .returned v ∧ OwnCols w' w.heap.size v (takenL s t) ∧ Below w.heap.size w w' := by
  by_cases ho : orderI s t < 0
  · have H := Lib.hid (takenL_no ho)
    go_enter Tryd.func37, Tryd.ntmps37
    go_wp2_with (go_at_call 82; refine (s_orderOf _ _ _ hs ht).mono ?_; rintro e w1 ⟨rfl, n, rfl⟩)
    go_ret
    exact ⟨_, rfl, by rw [H.out]; exact (OwnCols.empty w).below (below_drewN' (Below.refl _ _) _), below_drewN' ((Below.refl _ _).alloc (Nat.le_refl _) _) _⟩
  · have H := Lib.hid (takenL_ok (s := s) (t := t) (by omega))
    obtain ⟨h1, h2, h3⟩ := order_nums (s := s) (t := t) (by omega)
    have hz := numOkS_size h1
    have HN := Lib.hid h1
    have HM := Lib.hid h2
    obtain ⟨i0, hi0, hz0, hz1, hz2⟩ := info_parts info_col
    clear h1 h2
    go_enter Tryd.func37, Tryd.ntmps37
    go_wp2_with (go_at_call 82; refine (s_orderOf _ _ _ hs ht).mono ?_; rintro e w1 ⟨rfl, n, rfl⟩)
    go_loopw [5, 6, 7, 8, 9] (fun o c i _ _ wr => ∃ k : Nat, k ≤ s.size ∧ i = .int .i64 k ∧ c = .int .i64 (takeBor s t k) ∧ OwnCols wr w.heap.size o (seqTo (takeCol s t) k) ∧ Below w.heap.size w wr) (fun _ _ i _ _ _ => s.size - (intOf i).toNat)
    case atStart => exact ⟨0, Nat.zero_le _, rfl, rfl, (OwnCols.empty w).below (below_drewN' (Below.refl _ _) _), below_drewN' ((Below.refl _ _).alloc (Nat.le_refl _) _) _⟩
    case round =>
      obtain ⟨k, hk, rfl, rfl, hown, hb⟩ := hrel
      by_cases hlt : k < s.size
      · have d1 := dAtS_le HN.out k
        have d2 := dAtS_le HM.out k
        have d3 := takeBor_bd s t k
        by_cases hneg : (dAtS s k : Int) - (dAtS t k : Int) - takeBor s t k < 0
        · have E := Lib.hid (takeCol_neg hneg)
          have E2 := Lib.hid (takeBor_one hneg)
          go_wp2_with (first | (go_at_call 78; refine (s_digitAtN _ _ _ (by first | exact hs | exact ht) (by first | exact HN.out | exact HM.out) (by omega)).mono ?_; rintro e w' ⟨rfl, rfl⟩) | (at_builtin; refine wpList_append_own _ rfl _ _ 33 rfl w.heap.size 44 i0 (.agg #[.int .i64 0, .int .i64 0, .int .i64 0, .int .i64 0, .int .i64 0]) 5 40 Tryd.underlying33 hi0 hz0 hz1 hz2 rfl (by decide) _ _ _ rfl (OwnCols.below hown ?cb) _ 1 1 (Col.cells ⟨(dAtS s k : Int), (dAtS t k : Int), takeBor s t k, (dAtS s k : Int) - (dAtS t k : Int) - takeBor s t k + 10, 1⟩) rfl rfl ?c1 ?c2 ?c3 ?c4 ?c5 ?_))
          case cb => exact ((Below.refl _ _).alloc (Nat.le_refl _) _).alloc (by simp) _
          case c1 => exact col_last rfl (by simp)
          case c2 => exact col_one _ _ _ _ _
          case c3 => exact own_long (by omega)
          case c4 => exact own_bytes (by omega)
          case c5 => have := hb.size; simp; omega
          · intro v' w1 hown' hgrow _
            have R1 := Lib.hid (own_step' E.out hown')
            have R2 := Lib.hid (below_append ((hb.alloc hb.size _).alloc (by have := hb.size; simp; omega) _) (OwnCols.below hown (((Below.refl _ _).alloc (Nat.le_refl _) _).alloc (by simp) _)) hgrow (by have := hb.size; simp; omega))
            clear hown' hgrow hown hb
            go_wp2
            go_roundw
            case rel => exact ⟨k + 1, by omega, by go_num, by rw [E2.out], R1.out, R2.out⟩
            case measure => simp [intOf]; omega
        · have E := Lib.hid (takeCol_pos hneg)
          have E2 := Lib.hid (takeBor_no hneg)
          go_wp2_with (first | (go_at_call 78; refine (s_digitAtN _ _ _ (by first | exact hs | exact ht) (by first | exact HN.out | exact HM.out) (by omega)).mono ?_; rintro e w' ⟨rfl, rfl⟩) | (at_builtin; refine wpList_append_own _ rfl _ _ 33 rfl w.heap.size 44 i0 (.agg #[.int .i64 0, .int .i64 0, .int .i64 0, .int .i64 0, .int .i64 0]) 5 40 Tryd.underlying33 hi0 hz0 hz1 hz2 rfl (by decide) _ _ _ rfl (OwnCols.below hown ?cb) _ 1 1 (Col.cells ⟨(dAtS s k : Int), (dAtS t k : Int), takeBor s t k, (dAtS s k : Int) - (dAtS t k : Int) - takeBor s t k, 0⟩) rfl rfl ?c1 ?c2 ?c3 ?c4 ?c5 ?_))
          case cb => exact ((Below.refl _ _).alloc (Nat.le_refl _) _).alloc (by simp) _
          case c1 => exact col_last rfl (by simp)
          case c2 => exact col_one _ _ _ _ _
          case c3 => exact own_long (by omega)
          case c4 => exact own_bytes (by omega)
          case c5 => have := hb.size; simp; omega
          · intro v' w1 hown' hgrow _
            have R1 := Lib.hid (own_step' E.out hown')
            have R2 := Lib.hid (below_append ((hb.alloc hb.size _).alloc (by have := hb.size; simp; omega) _) (OwnCols.below hown (((Below.refl _ _).alloc (Nat.le_refl _) _).alloc (by simp) _)) hgrow (by have := hb.size; simp; omega))
            clear hown' hgrow hown hb
            go_wp2
            go_roundw
            case rel => exact ⟨k + 1, by omega, by go_num, by rw [E2.out], R1.out, R2.out⟩
            case measure => simp [intOf]; omega
      · obtain rfl : k = s.size := by omega
        have HOWN := Lib.hid hown
        clear hown
        go_wp2_with fail
        go_ret
        exact ⟨_, rfl, by rw [H.out]; exact HOWN.out, hb⟩
end Go.Proofs.YtpnondeaiinccaaDoor
