/- Walks of the functions that make transcripts: AddedOf, TakenOf, RowOf of the program. -/
import Derived.Test.YtpnondeaiinccaaDoorNum
import Derived.Test.YtpnondeaiinccaaDoorMut
import Derived.LoopTactic
import Derived.Test.YtpnondeaiinccaaDoorOrder
namespace Go.Proofs.YtpnondeaiinccaaDoor
open Go.RowKit
set_option linter.unusedVariables false
set_option maxRecDepth 100000
theorem l_clip (A : Option Addr) (n c : Nat) (w : World) (hnc : n ≤ c) (hc : c ≤ 9223372036854775807) :
    Calls Tryd.prog 76 #[.slice A n c] w fun e w' => e = .returned (.slice A n n) ∧ w = w' := by
  go_enter Tryd.func76, Tryd.ntmps76
  go_wp2
  go_ret
  exact ⟨rfl, rfl⟩
theorem own_caps {w : World} {base : Nat} {v : Value} {cs : List Col} (h : OwnCols w base v cs) : ∃ A n c, v = .slice A n c ∧ n ≤ c ∧ c ≤ 9223372036854775807 ∧ Mut w base (.slice A n n) cs := by
  have h' := h
  rcases h.2 with ⟨rfl, hn⟩ | ⟨g, cap, cur, rfl, hg, hh, hle, hm, _⟩
  · exact ⟨none, 0, 0, rfl, Nat.le_refl _, by omega, h'.mut 0⟩
  · exact ⟨_, _, cap, rfl, hle, by unfold maxLen at hm; omega, h'.mut _⟩
theorem own_step {w : World} {base : Nat} {v : Value} {f : Nat → Col} {k : Nat} (h : w.ownsRow base 44 5 v ((seqTo f k).length + 1) (flat (seqTo f k) ++ (f k).cells)) : OwnCols w base v (seqTo f (k + 1)) := by
  unfold OwnCols
  rw [flat_succ, seqTo_length]
  rw [seqTo_length] at h
  exact h
theorem own_bytes {f : Nat → Col} {k : Nat} (h : k ≤ 9) : ((seqTo f k).length + 1) * 40 ≤ 140737488355328 := by rw [seqTo_length]; omega
theorem own_long {f : Nat → Col} {k : Nat} (h : k ≤ 9) : (seqTo f k).length + 1 ≤ maxLen := by rw [seqTo_length]; unfold maxLen; omega
theorem own_step' {w : World} {base : Nat} {v : Value} {f : Nat → Col} {k : Nat} {c : Col} (e : f k = c) (h : w.ownsRow base 44 5 v ((seqTo f k).length + 1) (flat (seqTo f k) ++ c.cells)) : OwnCols w base v (seqTo f (k + 1)) := by
  subst e; exact own_step h
/-- a column that lies in a block at the world's end -/
theorem col_last {W W' : World} {n : Nat} {a b i d o : Int} (hw : W' = W.alloc (.cells #[.int .i64 a, .int .i64 b, .int .i64 i, .int .i64 d, .int .i64 o] 44)) (hn : W.heap.size = n) : ∀ j u, (Col.cells ⟨a, b, i, d, o⟩)[j]? = some u → W'.cell? ((⟨n, 0, none⟩ : Addr).add j) = some u := by
  subst hw hn; exact col_news W a b i d o
theorem mut_nil (w : World) (base : Nat) : Mut w base (.slice none 0 0) [] := ⟨none, 0, rfl, fun h => absurd rfl h⟩
set_option maxHeartbeats 3200000 in
theorem i_addedOf (s t : ByteArray) (w : World) (hs : s.size ≤ maxLen) (ht : t.size ≤ maxLen) :
    Calls Tryd.prog 31 #[.string s, .string t] w fun e w' => ∃ v, e = .returned v ∧ Mut w' w.heap.size v (addedL s t) ∧ Below w.heap.size w w' := by
  by_cases hn : numOkS s = true
  · by_cases hm : numOkS t = true
    · have hz := numOkS_size hn
      have hy := numOkS_size hm
      have H := Lib.hid (addedL_ok hn hm)
      have HN := Lib.hid hn
      have HM := Lib.hid hm
      obtain ⟨i0, hi0, hz0, hz1, hz2⟩ := info_parts info_col
      by_cases hst : s.size < t.size
      all_goals
        go_enter Tryd.func31, Tryd.ntmps31
        go_wp2_with (go_at_call 27; refine (i_numeralOk _ _ (by first | exact hs | exact ht)).mono ?_; rintro e w' ⟨rfl, rfl⟩)
        go_loopw [5, 6, 7, 8, 9, 10, 24] (fun o c _ _ _ _ i wr => ∃ k : Nat, k ≤ max s.size t.size ∧ i = .int .i64 k ∧ c = .int .i64 (addCarry s t k) ∧ OwnCols wr w.heap.size o (seqTo (addCol s t) k) ∧ Below w.heap.size w wr) (fun _ _ _ _ _ _ i _ => max s.size t.size - (intOf i).toNat)
        case atStart => exact ⟨0, Nat.zero_le _, rfl, rfl, OwnCols.nil _ _, Below.refl _ _⟩
        case round =>
          obtain ⟨k, hk, rfl, rfl, hown, hb⟩ := hrel
          clear hn hm
          by_cases hlt : k < max s.size t.size
          · have d1 := dAtS_le HN.out k
            have d2 := dAtS_le HM.out k
            have d3 := addCarry_bd HN.out HM.out k
            go_wp2_with (first | (go_at_call 60; refine (i_digit _ _ _ (by first | exact HN.out | exact HM.out) (by omega) (by omega)).mono ?_; rintro e w' ⟨rfl, rfl⟩) | (at_builtin; refine wpList_append_own _ rfl _ _ 33 rfl w.heap.size 44 i0 (.agg #[.int .i64 0, .int .i64 0, .int .i64 0, .int .i64 0, .int .i64 0]) 5 40 Tryd.underlying33 hi0 hz0 hz1 hz2 rfl (by decide) _ _ _ rfl (hown.alloc _) ⟨wr.heap.size, 0, none⟩ 1 1 (addCol s t k).cells rfl rfl ?c1 ?c2 ?c3 ?c4 ?c5 ?_))
            case c1 => exact col_news _ _ _ _ _ _
            case c2 => exact col_one _ _ _ _ _
            case c3 => exact own_long (by omega)
            case c4 => exact own_bytes (by omega)
            case c5 => have := hb.size; simp; omega
            · intro v' w1 hown' hgrow _
              have R1 := Lib.hid (own_step hown')
              have R2 := Lib.hid (below_append (hb.alloc hb.size _) (hown.alloc _) hgrow (by have := hb.size; simp; omega))
              clear hown' hgrow hown hb
              go_wp2
              go_roundw
              case rel => exact ⟨k + 1, by omega, by go_num, rfl, R1.out, R2.out⟩
              case measure => simp [intOf]; omega
          · obtain rfl : k = max s.size t.size := by omega
            obtain ⟨A, n, c, rfl, hnc, hcm, hmut⟩ := own_caps hown
            have HMT := Lib.hid hmut
            clear hmut hown
            go_wp2_with (go_at_call 76; refine (l_clip _ _ _ _ hnc hcm).mono ?_; rintro e w' ⟨rfl, rfl⟩)
            go_ret
            exact ⟨_, rfl, by rw [H.out]; exact HMT.out, hb⟩
    · have hm' := ne_true hm
      have H := Lib.hid (addedL_bad2 (s := s) hm')
      clear hm
      go_enter Tryd.func31, Tryd.ntmps31
      go_wp2_with (go_at_call 27; refine (i_numeralOk _ _ (by first | exact hs | exact ht)).mono ?_; rintro e w' ⟨rfl, rfl⟩)
      go_ret
      exact ⟨_, rfl, by rw [H.out]; exact mut_nil _ _, Below.refl _ _⟩
  · have hn' := ne_true hn
    have H := Lib.hid (addedL_bad1 (t := t) hn')
    clear hn
    go_enter Tryd.func31, Tryd.ntmps31
    go_wp2_with (go_at_call 27; refine (i_numeralOk _ _ (by first | exact hs | exact ht)).mono ?_; rintro e w' ⟨rfl, rfl⟩)
    go_ret
    exact ⟨_, rfl, by rw [H.out]; exact mut_nil _ _, Below.refl _ _⟩
end Go.Proofs.YtpnondeaiinccaaDoor
