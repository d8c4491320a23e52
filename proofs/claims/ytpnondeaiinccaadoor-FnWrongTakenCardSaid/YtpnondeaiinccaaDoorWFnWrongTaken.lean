/- The walk of laws.FnWrongTaken: whatever is drawn, the law answers true; nothing that was there is changed. -/
import Derived.Test.YtpnondeaiinccaaDoorDrawT
import Derived.Test.YtpnondeaiinccaaDoorLaw10
import Derived.Test.YtpnondeaiinccaaDoorCol3
import Derived.Test.YtpnondeaiinccaaDoorLaw12
import Derived.Test.YtpnondeaiinccaaDoorOrder2
import Derived.Test.YtpnondeaiinccaaDoorTrans
import Derived.OpenShut
namespace Go.Proofs.YtpnondeaiinccaaDoor.lawFnWrongTaken
open Go.RowKit Go.Proofs.YtpnondeaiinccaaDoor
set_option linter.unusedVariables false
theorem cells_flat {w : World} {g : Nat} {cs : List Col} (h : ∀ k c, cs[k]? = some c → ColCells w g k c) : ∀ j u, (flat cs)[j]? = some u → w.cell? ((⟨g, 0, none⟩ : Addr).add j) = some u := by
  intro j u hu
  have hj : j < cs.length * 5 := by
    have := (List.getElem?_eq_some_iff.1 hu).1
    rwa [flat_length] at this
  have hk : j / 5 < cs.length := by omega
  obtain ⟨c, hc⟩ : ∃ c, cs[j / 5]? = some c := ⟨_, List.getElem?_eq_getElem hk⟩
  have hr : j % 5 < 5 := Nat.mod_lt _ (by omega)
  have e : j / 5 * 5 + j % 5 = j := by omega
  have hf := flat_get hc (j % 5) hr
  rw [e, hu] at hf
  obtain ⟨h0, h1, h2, h3, h4⟩ := h _ _ hc
  have ha : ((⟨g, 0, none⟩ : Addr).add j) = ⟨g, j / 5 * 5 + j % 5, none⟩ := by rw [e]; unfold Addr.add; split <;> simp_all
  rw [ha, hf]
  match j % 5, hr with
  | 0, _ => exact h0
  | 1, _ => exact h1
  | 2, _ => exact h2
  | 3, _ => exact h3
  | 4, _ => exact h4
theorem flat_one {cs : List Col} : ∀ u ∈ flat cs, u.oneCell' = true := by
  intro u hu
  unfold flat at hu
  rw [List.mem_flatMap] at hu
  obtain ⟨c, _, hc⟩ := hu
  exact col_one _ _ _ _ _ u hc
theorem own_zero (w : World) : (w.alloc (.cells #[] 44)).ownsRow w.heap.size 44 5 (.slice (some ⟨w.heap.size, 0, none⟩) 0 0) 0 [] := OwnCols.empty w
set_option maxRecDepth 100000 in
set_option maxHeartbeats 3200000 in
theorem walk (a0 : Option Addr) (len0 cap0 : Nat) (z0 : List Int) (w : World) (w0 : IsBytes w a0 len0 cap0 z0) :
    Calls Tryd.prog 9 #[.slice a0 len0 cap0] w fun e w' => e = .returned (.bool true) ∧ Below w.heap.size w w' := by
  obtain ⟨i0, hi0, hz0, hz1, hz2⟩ := info_parts info_col
  by_cases hl : 1048576 < len0
  · go_enter Tryd.func9, Tryd.ntmps9
    go_wp2_with fail
    go_ret
    exact ⟨rfl, Below.refl _ _⟩
  · go_enter Tryd.func9, Tryd.ntmps9
    go_wp2_with fail
    refine (s_drawWrongTaken a0 len0 cap0 z0 _ w0 (by omega)).mono ?_
    rintro e w1 ⟨v, cs, rfl, hcl, m1, hb1⟩
    have hlb : cs.length ≤ 1048576 := by omega
    go_wp2_with fail
    refine (i_wrongTaken v cs _ m1.cols hlb).mono ?_
    rintro e w2 ⟨rfl, b2⟩
    have m2 := m1.below b2
    have hb2 := hb1.trans (b2.mono hb1.size)
    go_wp2_with fail
    refine (s_wrongTaken v cs _ m2.cols hlb).mono ?_
    rintro e w3 ⟨rfl, b3⟩
    have m3 := m2.below b3
    have hb3 := hb2.trans (b3.mono hb2.size)
    clear m1 m2 b2 b3 hb2
    by_cases hw : wTake cs = -1
    · have t1 : (wTake cs != -1) = false := by simp [hw]
      have HW := Lib.hid hw
      have HM := Lib.hid m3
      obtain ⟨A, cap, rfl, hc⟩ := id m3.cols
      have HC := Lib.hid hc
      have HB3 := Lib.hid hb3
      have hw13 := hb3.size
      clear hw m3 hc hb1 hb3
      go_wp2_with fail
      go_loopw [5, 6] (fun i _ wr => ∃ k : Nat, k ≤ cs.length ∧ i = .int .i64 k ∧ Below w3.heap.size w3 wr) (fun i _ _ => cs.length - (intOf i).toNat)
      case atStart => exact ⟨0, Nat.zero_le _, rfl, Below.refl _ _⟩
      case round =>
        obtain ⟨k, hk, rfl, hb⟩ := hrel
        by_cases hlt : k < cs.length
        · obtain ⟨g, rfl, hg, hcell⟩ := HC.out (fun e => by rw [e] at hlt; simp at hlt)
          obtain ⟨c, hck⟩ : ∃ c, cs[k]? = some c := ⟨_, List.getElem?_eq_getElem hlt⟩
          have hds := singleB_iff.1 (wTake_dig_at HW.out hck)
          have d1 : 0 ≤ c.d := by omega
          have d2 : c.d ≤ 9 := by omega
          have HK := Lib.hid hck
          have HCL := Lib.hid hcell
          have hwr := hb.size
          have hgr : g < wr.heap.size := by omega
          have md : (c.d + 1).tmod 10 = (c.d + 1) % 10 := Int.tmod_eq_emod_of_nonneg (by omega)
          clear hck hcell hds
          go_wp2_with (at_builtin; refine wpList_append_own _ rfl _ _ 33 rfl wr.heap.size 44 i0 (.agg #[.int .i64 0, .int .i64 0, .int .i64 0, .int .i64 0, .int .i64 0]) 5 40 Tryd.underlying33 hi0 hz0 hz1 hz2 rfl (by decide) _ _ _ rfl (own_zero wr) ⟨g, 0, none⟩ cs.length cap (flat cs) rfl (flat_length cs) ?c1 flat_one ?c3 ?c4 ?c5 ?_)
          case c1 => exact cells_flat fun k' c' hk' => ((HCL.out k' c' hk').below hg hb).below hgr ((Below.refl _ _).alloc (Nat.le_refl _) _)
          case c3 => unfold maxLen; omega
          case c4 => omega
          case c5 => simp
          · intro v' w4 hown' hgrow _
            have own4 : OwnCols w4 wr.heap.size v' cs := hown'
            have hb4 : Below wr.heap.size wr w4 := below_append ((Below.refl _ _).alloc (Nat.le_refl _) _) (own_zero wr) hgrow (by simp)
            have hb34 := hb.trans (hb4.mono hwr)
            have hw34 := hb34.size
            obtain ⟨A', cap', rfl, _⟩ := own_form own4
            obtain ⟨g', arr, cap2, hv', raw4⟩ := (own4.mut cap').raw (fun e => by rw [e] at hlt; simp at hlt)
            injection hv' with hA _ hcap
            subst hA hcap
            obtain ⟨_, _, _, x3, _⟩ := ((HCL.out k c HK.out).below hg hb34)
            obtain ⟨y0, y1, y2, y3, y4⟩ := raw4.cells HK.out
            have f3 := raw4.frozen (k * 5 + 3)
            have hg4 := raw4.lt
            have hgg := raw4.1
            have hne : g ≠ g' := by omega
            have hlt' : (k : Int) < (cs.length : Int) := by omega
            have HRAW := Lib.hid raw4
            have HB34 := Lib.hid hb34
            have hgw3 : w3.heap.size ≤ g' := by omega
            clear hown' hgrow own4 hb4 hb34 raw4 hb
            go_wp2_with fail
            have raw5 := HRAW.out.putD HK.out ((c.d + 1) % 10)
            have b5 : Below w3.heap.size w3 (w4.setCell ⟨g', k * 5 + 3, none⟩ (.int .i64 ((c.d + 1) % 10))) := HB34.out.setCell (p := ⟨g', k * 5 + 3, none⟩) hgw3 _
            have m5 := (raw5.mut cap').cols
            rw [List.length_set] at m5
            refine (i_wrongTaken _ _ _ m5 (by rw [List.length_set]; omega)).mono ?_
            rintro e w6 ⟨he, b6⟩
            have he2 : e = .returned (.int .i64 (k : Int)) := by rw [he]; exact congrArg (fun z => Ending.returned (Value.int .i64 z)) (wTake_other HW.out HK.out)
            subst he2
            have HB6 := Lib.hid (b5.trans (b6.mono b5.size))
            clear he b6 m5 raw5 b5
            go_wp2_with fail
            go_roundw
            case rel => exact ⟨k + 1, by omega, by go_num, HB6.out⟩
            case measure => simp [intOf]; omega
        · obtain rfl : k = cs.length := by omega
          have HBK := Lib.hid (HB3.out.trans (hb.mono hw13))
          have HCK := Lib.hid (((HM.out.cols).below hb).more hb.size)
          clear hb
          go_wp2_with fail
          refine (i_onTranscript _ cs _ HCK.out hlb).mono ?_
          rintro e w5 ⟨he, b5⟩
          have HB5 := Lib.hid (HBK.out.trans (b5.mono HBK.out.size))
          by_cases hne : cs = []
          · have h0 : cs.length = 0 := by rw [hne]; rfl
            have t0 : ((cs.length : Int) == 0) = true := by simp [h0]
            have he2 : e = .returned (.tuple #[.string (transT Col.a cs), .string (transT Col.b cs), .bool (transB cs)]) := he
            subst he2
            clear h0 hne b5 he
            go_wp2_with fail
            go_ret
            exact ⟨rfl, HB5.out⟩
          · have t0 : ((cs.length : Int) == 0) = false := by
              rw [beq_eq_false_iff_ne]
              intro e
              exact hne (List.eq_nil_of_length_eq_zero (by omega))
            have hB := take_trans hne HW.out
            have hD := trans_allD hB
            have ho := taken_order hne HW.out
            have za := numOkS_size (trans_num hB hD.1).1
            have zb := numOkS_size (trans_num hB hD.2.1).1
            have he2 : e = .returned (.tuple #[.string (transT Col.a cs), .string (transT Col.b cs), .bool true]) := by rw [he]; unfold transE; rw [hB]
            subst he2
            have hsa : (transT Col.a cs).size ≤ maxLen := by unfold maxLen; omega
            have hsb : (transT Col.b cs).size ≤ maxLen := by unfold maxLen; omega
            clear hne b5 he hB hD za zb
            go_wp2_with fail
            refine (i_orderOf _ _ _ hsa hsb).mono ?_
            rintro e w7 ⟨rfl, n7, rfl⟩
            go_wp2_with fail
            go_ret
            exact ⟨rfl, HB5.out⟩
    · have t1 : (wTake cs != -1) = true := by simp [hw]
      have hbd := wTake_bd cs
      have h2 : -2 ≤ wTake cs := by rcases hbd with h | h; exact absurd h hw; exact h.1
      have h3 : wTake cs ≤ (cs.length : Int) := by rcases hbd with h | h; exact absurd h hw; exact h.2
      obtain ⟨A, cap, rfl⟩ := m3.cols.len
      clear hw hbd m3 hi0 hz0 hz1 hz2
      go_wp2_with (go_at_call 16; refine (l_alive _).mono ?_; rintro e w' ⟨rfl, rfl⟩)
      all_goals
        go_ret
        exact ⟨rfl, hb3⟩
end Go.Proofs.YtpnondeaiinccaaDoor.lawFnWrongTaken
