/- The walk of laws.FnTotalOf: whatever is drawn, the law answers true; nothing that was there is changed. -/
import Derived.Test.YtpnondeaiinccaaDoorDrawTot
import Derived.Test.YtpnondeaiinccaaDoorLaw14
import Derived.Test.YtpnondeaiinccaaDoorValue
import Derived.OpenShut
namespace Go.Proofs.YtpnondeaiinccaaDoor.lawFnTotalOf
open Go.RowKit Go.Proofs.YtpnondeaiinccaaDoor
set_option linter.unusedVariables false
theorem drop_at {zs : List ByteArray} {k : Nat} {z : ByteArray} (h : zs[k]? = some z) : zs.drop k = z :: zs.drop (k + 1) := by
  have hlt := (List.getElem?_eq_some_iff.1 h).1
  have e := (List.getElem?_eq_some_iff.1 h).2
  rw [List.drop_eq_getElem_cons hlt, e]
theorem own_zero (w : World) : (w.alloc (.cells #[] 9)).ownsRow w.heap.size 9 1 (.slice (some ⟨w.heap.size, 0, none⟩) 0 0) 0 [] := OwnStrs.empty w
set_option maxRecDepth 100000 in
set_option maxHeartbeats 3200000 in
theorem walk (a0 : Option Addr) (len0 cap0 : Nat) (z0 : List Int) (w : World) (w0 : IsBytes w a0 len0 cap0 z0) :
    Calls Tryd.prog 3 #[.slice a0 len0 cap0] w fun e w' => e = .returned (.bool true) ∧ Below w.heap.size w w' := by
  obtain ⟨i0, hi0, hz0, hz1, hz2⟩ := info_parts info_str2
  by_cases hl : 1048576 < len0
  · go_enter Tryd.func3, Tryd.ntmps3
    go_wp2_with fail
    go_ret
    exact ⟨rfl, Below.refl _ _⟩
  · go_enter Tryd.func3, Tryd.ntmps3
    go_wp2_with fail
    refine (s_drawTotalOf a0 len0 cap0 z0 _ w0 (by omega)).mono ?_
    rintro e w1 ⟨v, zs, rfl, hzl, hzs, V1, hb1⟩
    have hlb : zs.length ≤ 1048576 := by omega
    have HZM := Lib.hid (show ∀ (k : Nat) (z : ByteArray), zs[k]? = some z → z.size ≤ maxLen from fun k z hk => by have := hzs k z hk; unfold maxLen; omega)
    clear hzs
    have h1 := fun W hv => i_totalOf v zs W hv hlb HZM.out
    have h2 := fun W hv => s_totalOf v zs W hv hlb HZM.out
    have HV1 := Lib.hid V1
    clear V1
    cases ho : totalO zs with
    | none =>
      rw [ho] at h1 h2
      have H1 := Lib.hid h1
      have H2 := Lib.hid h2
      clear h1 h2 ho
      go_wp2_with fail
      refine (H1.out _ HV1.out).mono ?_
      rintro e w2 ⟨he, b2⟩
      obtain rfl : e = .returned (.tuple #[.string ⟨#[]⟩, .bool false]) := he
      have HV2 := Lib.hid ((HV1.out.below b2).more b2.size)
      have hb2 := hb1.trans (b2.mono hb1.size)
      go_wp2_with fail
      refine (H2.out _ HV2.out).mono ?_
      rintro e w3 ⟨he, b3⟩
      obtain rfl : e = .returned (.tuple #[.string ⟨#[]⟩, .bool false]) := he
      have hb3 := hb2.trans (b3.mono hb2.size)
      go_wp2_with (go_at_call 16; refine (l_alive _).mono ?_; rintro e w' ⟨rfl, rfl⟩)
      go_ret
      exact ⟨rfl, hb3⟩
    | some x =>
      rw [ho] at h1 h2
      obtain ⟨hz9, hok, hx, hv, hrev⟩ := total_facts ho
      have hxs : x.size ≤ maxLen := by have := numOkS_size hx; unfold maxLen; omega
      have ts : (x.toList == x.toList) = true := by simp
      have H1 := Lib.hid h1
      have H2 := Lib.hid h2
      have HOK := Lib.hid hok
      have HVX := Lib.hid (show valI x = (sumS zs : Int) by rw [valI_ok hx, hv])
      have HREV := Lib.hid hrev
      clear h1 h2 hok hx hv hrev ho
      go_wp2_with fail
      refine (H1.out _ HV1.out).mono ?_
      rintro e w2 ⟨he, b2⟩
      obtain rfl : e = .returned (.tuple #[.string x, .bool true]) := he
      have HV2 := Lib.hid ((HV1.out.below b2).more b2.size)
      have hb2 := hb1.trans (b2.mono hb1.size)
      go_wp2_with fail
      refine (H2.out _ HV2.out).mono ?_
      rintro e w3 ⟨he, b3⟩
      obtain rfl : e = .returned (.tuple #[.string x, .bool true]) := he
      have HV3 := Lib.hid ((HV2.out.below b3).more b3.size)
      have hb3 := hb2.trans (b3.mono hb2.size)
      obtain ⟨A, cap, rfl, hc⟩ := id HV3.out
      have HC := Lib.hid hc
      have HB3 := Lib.hid hb3
      have hw13 := hb3.size
      clear b2 b3 hb1 hb2 hb3 HV1 HV2 H1 H2 hc
      have e1 : IntKind.i64.wrap ((zs.length : Int) - 1) = (zs.length : Int) - 1 := IntWalk.i64_in _ (by omega)
      have OW0 := OwnStrs.empty w3
      go_wp2_with fail
      go_loopw [8, 9, 10] (fun s o i wr => ∃ (m : Nat) (a : Int), m ≤ zs.length ∧ i = .int .i64 ((m : Int) - 1) ∧ s = .int .i64 a ∧ Go.RowKit.Hid (a = (sumS (zs.drop m) : Int)) ∧ 0 ≤ a ∧ a ≤ 1000000000 * ((zs.length : Int) - (m : Int)) ∧ OwnStrs wr w3.heap.size o (zs.drop m).reverse ∧ Below w3.heap.size w3 wr) (fun _ _ i _ => (intOf i + 1).toNat)
      case atStart => exact ⟨zs.length, 0, Nat.le_refl _, rfl, rfl, Lib.hid (by rw [List.drop_length]; rfl), by omega, by omega, by rw [List.drop_length]; exact OW0, (Below.refl _ _).alloc (Nat.le_refl _) _⟩
      case round =>
        obtain ⟨m, a, hm, rfl, rfl, HE, a0', a1, hown, hb⟩ := hrel
        clear OW0
        rcases m with _ | k
        · have e0 : ((0 : Nat) : Int) - 1 = -1 := by omega
          rw [e0]
          rw [List.drop_zero] at hown
          have hfin := HE.out
          rw [List.drop_zero] at hfin
          have tf : (valI x == a) = true := by rw [beq_iff_eq, HVX.out]; exact hfin.symm
          have HB := Lib.hid (HB3.out.trans (hb.mono hw13))
          have hlr : zs.reverse.length ≤ 1048576 := by rw [List.length_reverse]; exact hlb
          have hzr : ∀ (k : Nat) (z : ByteArray), zs.reverse[k]? = some z → z.size ≤ maxLen := fun k z hk => by
            have hmem : z ∈ zs := by simpa using List.mem_of_getElem? hk
            have := numOkS_size (HOK.out z hmem)
            unfold maxLen; omega
          have OS := Lib.hid (OwnStrs.strs hown)
          have HT := Lib.hid fun W V hv => i_totalOf V zs.reverse W hv hlr hzr
          clear hown hfin hzr hlr hb
          go_wp2_with fail
          refine (HT.out _ _ OS.out).mono ?_
          rintro e w5 ⟨he, b5⟩
          rw [HREV.out] at he
          obtain rfl : e = .returned (.tuple #[.string x, .bool true]) := he
          have hb5 := HB.out.trans (b5.mono HB.out.size)
          go_wp2_with fail
          refine (i_valueOf x _ hxs).mono ?_
          rintro e w6 ⟨rfl, b6⟩
          have hb6 := hb5.trans (b6.mono hb5.size)
          go_wp2_with fail
          go_ret
          exact ⟨rfl, hb6⟩
        · have ek : (((k + 1 : Nat) : Int) - 1) = (k : Int) := by omega
          rw [ek]
          have hlt : k < zs.length := by omega
          obtain ⟨g, rfl, hg, hcell⟩ := HC.out (fun e => by rw [e] at hlt; simp at hlt)
          obtain ⟨z, hzk⟩ : ∃ z, zs[k]? = some z := ⟨_, List.getElem?_eq_getElem hlt⟩
          have hok := HOK.out z (List.mem_of_getElem? hzk)
          have hzm := HZM.out k z hzk
          have h0 := (hb.cell (p := ⟨g, k, none⟩) hg).trans (hcell k z hzk)
          have v0 : 0 ≤ valI z := by rw [valI_ok hok]; omega
          have v1 : valI z ≤ 1000000000 := by rw [valI_ok hok]; have := valS_lt9 hok; omega
          have hd := drop_at hzk
          have HN := Lib.hid (show a + valI z = (sumS (zs.drop k) : Int) by
            have := HE.out
            rw [hd, sumS, valI_ok hok]; omega)
          obtain ⟨rs, hrs⟩ : ∃ rs, rs = (zs.drop (k + 1)).reverse := ⟨_, rfl⟩
          have HD := Lib.hid (show (zs.drop k).reverse = rs ++ [z] by rw [hd, List.reverse_cons, hrs])
          have hlen9 : rs.length ≤ 9 := by rw [hrs, List.length_reverse, List.length_drop]; omega
          rw [← hrs] at hown
          have hk0 : (0 : Int) ≤ (k : Int) := by omega
          have hk1 : (k : Int) < (zs.length : Int) := by omega
          have OW := Lib.hid hown
          have HBR := Lib.hid hb
          have HCL := Lib.hid hcell
          have hwr := hb.size
          have hgr : g < wr.heap.size := Nat.lt_of_lt_of_le hg hwr
          clear hzk hcell hd hok hown hb hrs
          go_wp2_with fail
          refine (i_valueOf z _ hzm).mono ?_
          rintro e w5 ⟨rfl, b5⟩
          have own5 := OW.out.below b5
          have hb5 := HBR.out.trans (b5.mono hwr)
          have h5 := (b5.cell (p := ⟨g, k, none⟩) hgr).trans h0
          have hs5 := hb5.size
          clear b5 h0
          go_wp2_with (at_builtin; refine wpList_append_own _ rfl _ _ 23 rfl w3.heap.size 9 i0 (.string ⟨#[]⟩) 1 16 Tryd.underlying23 hi0 hz0 hz1 hz2 rfl (by decide) _ _ _ rfl (own5.below ((Below.refl _ _).alloc (Nat.le_refl _) _)) ⟨w5.heap.size, 0, none⟩ 1 1 [.string z] rfl rfl ?c1 ?c2 ?c3 ?c4 ?c5 ?_)
          case c1 => exact str_news w5 z
          case c2 => exact str_one z
          case c3 => unfold maxLen; omega
          case c4 => omega
          case c5 => simp; omega
          · intro v' w6 hown' hgrow _
            have own6 : OwnStrs w6 w3.heap.size v' (zs.drop k).reverse := by rw [HD.out]; exact strs_more hown'
            have hb6 : Below w3.heap.size w3 w6 := below_append (hb5.alloc hs5 _) (own5.below ((Below.refl _ _).alloc (Nat.le_refl _) (.cells #[.string z] 9))) hgrow (by simp; omega)
            have OW6 := Lib.hid own6
            have HB6 := Lib.hid hb6
            clear hown' hgrow own5 own6 hb5 hb6
            go_wp2_with fail
            go_roundw
            case rel => exact ⟨k, a + valI z, by omega, rfl, rfl, HN, by omega, by omega, OW6.out, HB6.out⟩
            case measure => simp [intOf]
end Go.Proofs.YtpnondeaiinccaaDoor.lawFnTotalOf
