/- Walks of AddedBack of the program and of the reference. -/
import Derived.Test.YtpnondeaiinccaaDoorMade
import Derived.Test.YtpnondeaiinccaaDoorCol3
import Derived.Test.YtpnondeaiinccaaDoorCopy
import Derived.Laws.MakeOwn
namespace Go.Proofs.YtpnondeaiinccaaDoor
open Go.RowKit
set_option linter.unusedVariables false
set_option maxRecDepth 100000
/-- the column of adding back -/
def backCol (c : Col) : Col := ⟨c.d, c.b, c.i, c.a, c.o⟩
def backL (cs : List Col) : List Col := if wTake cs = -1 then cs.map backCol else []
theorem backL_ok {cs : List Col} (h : wTake cs = -1) : backL cs = cs.map backCol := by unfold backL; rw [if_pos h]
theorem backL_no {cs : List Col} (h : ¬ wTake cs = -1) : backL cs = [] := by unfold backL; rw [if_neg h]
theorem wTake_len {cs : List Col} (h : wTake cs = -1) : cs.length ≤ 9 := by
  unfold wTake at h
  split at h
  · omega
  · omega
theorem back_take {cs : List Col} {k : Nat} {c : Col} (h : cs[k]? = some c) : (cs.map backCol).take (k + 1) = (cs.map backCol).take k ++ [backCol c] := by
  rw [List.take_add_one, List.getElem?_map, h]; rfl
theorem arr_at' {a : Array Value} {j : Nat} (h : j < a.size) : ∃ v, a[j]? = some v := ⟨_, Array.getElem?_eq_getElem h⟩
theorem get_some {cs : List Col} {k : Nat} (h : k < cs.length) : ∃ c, cs[k]? = some c := ⟨_, List.getElem?_eq_getElem h⟩
theorem own_back {w : World} {base : Nat} {v : Value} {cs : List Col} {k : Nat} {c : Col} (e : cs[k]? = some c) (hk : k < cs.length) (h : w.ownsRow base 44 5 v (k + 1) (flat ((cs.map backCol).take k) ++ (backCol c).cells)) : OwnCols w base v ((cs.map backCol).take (k + 1)) := by
  unfold OwnCols
  rw [back_take e, flat_append, flat_one, List.length_append, List.length_take, List.length_map, Nat.min_eq_left (by omega)]
  exact h
set_option maxHeartbeats 3200000 in
theorem s_addedBack (v : Value) (cs : List Col) (w : World) (hv : Cols w w.heap.size v cs) (hl : cs.length ≤ 1048576) :
    Calls Tryd.prog 47 #[v] w fun e w' => ∃ u, e = .returned u ∧ OwnCols w' w.heap.size u (backL cs) ∧ Below w.heap.size w w' := by
  obtain ⟨A, cap, rfl, hc⟩ := id hv
  by_cases hne : cs = []
  · subst hne
    go_enter Tryd.func47, Tryd.ntmps47
    go_wp2
    go_loopw [3, 4, 5] (fun o i _ wr => i = .int .i64 0 ∧ o = .slice (some ⟨w.heap.size, 0, none⟩) 0 0 ∧ wr = w.alloc (.cells #[] 44)) (fun _ _ _ _ => 0)
    case atStart => exact ⟨rfl, rfl, rfl⟩
    case round =>
      obtain ⟨rfl, rfl, rfl⟩ := hrel
      go_wp2
      go_ret
      refine ⟨_, rfl, ?_, (Below.refl _ _).alloc (Nat.le_refl _) _⟩
      rw [show backL [] = [] by unfold backL; split <;> rfl]
      exact OwnCols.empty _
  · obtain ⟨g, rfl, hg, hcell⟩ := hc hne
    have HN := Lib.hid hcell
    obtain ⟨i0, hi0, hz0, hz1, hz2⟩ := info_parts info_col
    have hpos : 0 < cs.length := by
      rcases Nat.eq_zero_or_pos cs.length with h | h
      · exact absurd (List.eq_nil_of_length_eq_zero h) hne
      · exact h
    clear hcell hne hc
    by_cases hw : wTake cs = -1
    · have HA := Lib.hid (backL_ok hw)
      have h9 := wTake_len hw
      have t1 : (wTake cs == -1) = true := by simp [hw]
      have HV := Lib.hid hv
      clear hw hv
      go_enter Tryd.func47, Tryd.ntmps47
      go_wp2
      go_loopw [3, 4, 5] (fun o i _ wr => ∃ k : Nat, k ≤ cs.length ∧ i = .int .i64 k ∧ OwnCols wr w.heap.size o ((cs.map backCol).take k) ∧ Below w.heap.size w wr) (fun _ i _ _ => cs.length - (intOf i).toNat)
      case atStart => exact ⟨0, Nat.zero_le _, rfl, OwnCols.empty _, (Below.refl _ _).alloc (Nat.le_refl _) _⟩
      case round =>
        obtain ⟨k, hk, rfl, hown, hb⟩ := hrel
        by_cases hlt : k < cs.length
        · obtain ⟨c, hck⟩ := get_some hlt
          have HCK := Lib.hid hck
          have HVR := Lib.hid ((HV.out.below hb).more hb.size)
          clear hck
          go_wp2_with fail
          refine (s_wrongTaken _ cs _ HVR.out hl).mono ?_
          rintro e w1 ⟨rfl, hb1⟩
          have hb2 := hb.trans (hb1.mono hb.size)
          have hown2 := OwnCols.below hown hb1
          obtain ⟨h0, h1, h2, h3, h4⟩ := (HN.out k c HCK.out).below hg hb2
          have hg1 : g < w1.heap.size := Nat.lt_of_lt_of_le hg hb2.size
          have hlk : ((cs.map backCol).take k).length = k := by rw [List.length_take, List.length_map]; omega
          have HLK := Lib.hid hlk
          clear hown hb hb1 hlk
          go_wp2_with (at_builtin; refine wpList_append_own _ rfl _ _ 33 rfl w.heap.size 44 i0 (.agg #[.int .i64 0, .int .i64 0, .int .i64 0, .int .i64 0, .int .i64 0]) 5 40 Tryd.underlying33 hi0 hz0 hz1 hz2 rfl (by decide) _ _ _ rfl (OwnCols.below hown2 ?cb) _ 1 1 (backCol c).cells rfl rfl ?c1 ?c2 ?c3 ?c4 ?c5 ?_)
          case cb => exact ((Below.refl _ _).alloc (Nat.le_refl _) _).alloc (by simp) _
          case c1 => exact col_last rfl (by simp)
          case c2 => exact col_one _ _ _ _ _
          case c3 => rw [HLK.out]; unfold maxLen; omega
          case c4 => rw [HLK.out]; omega
          case c5 => have := hb2.size; simp; omega
          · intro v' w2 hown' hgrow _
            have R1 := Lib.hid (own_back HCK.out hlt hown')
            have R2 := Lib.hid (below_append ((hb2.alloc hb2.size _).alloc (by have := hb2.size; simp; omega) _) (OwnCols.below hown2 (((Below.refl _ _).alloc (Nat.le_refl _) _).alloc (by simp) _)) hgrow (by have := hb2.size; simp; omega))
            clear hown' hgrow hown2 hb2 h0 h1 h2 h3 h4
            go_wp2
            go_roundw
            case rel => exact ⟨k + 1, by omega, by go_num, R1.out, R2.out⟩
            case measure => simp [intOf]; omega
        · obtain rfl : k = cs.length := by omega
          have HOWN := Lib.hid hown
          clear hown
          go_wp2_with fail
          go_ret
          refine ⟨_, rfl, ?_, hb⟩
          rw [HA.out]
          have := HOWN.out
          rwa [List.take_of_length_le (by simp)] at this
    · have HA := Lib.hid (backL_no hw)
      have t1 : (wTake cs == -1) = false := by simp [hw]
      have HV := Lib.hid hv
      clear hw hv
      go_enter Tryd.func47, Tryd.ntmps47
      go_wp2
      go_loopw [3, 4, 5] (fun o i _ wr => i = .int .i64 0 ∧ o = .slice (some ⟨w.heap.size, 0, none⟩) 0 0 ∧ wr = w.alloc (.cells #[] 44)) (fun _ _ _ _ => 0)
      case atStart => exact ⟨rfl, rfl, rfl⟩
      case round =>
        obtain ⟨rfl, rfl, rfl⟩ := hrel
        have hb : Below w.heap.size w (w.alloc (.cells #[] 44)) := (Below.refl _ _).alloc (Nat.le_refl _) _
        have HVR := Lib.hid ((HV.out.below hb).more hb.size)
        go_wp2_with fail
        refine (s_wrongTaken _ cs _ HVR.out hl).mono ?_
        rintro e w1 ⟨rfl, hb1⟩
        have hb2 := hb.trans (hb1.mono hb.size)
        go_wp2_with fail
        go_ret
        refine ⟨_, rfl, ?_, hb2⟩
        rw [HA.out]
        exact OwnCols.below (OwnCols.empty w) hb1
end Go.Proofs.YtpnondeaiinccaaDoor
