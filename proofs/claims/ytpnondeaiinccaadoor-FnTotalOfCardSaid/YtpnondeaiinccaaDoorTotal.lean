/- Walks of TotalOf of the program and of the reference: numerals added one after the other. -/
import Derived.Test.YtpnondeaiinccaaDoorSum
import Derived.Test.YtpnondeaiinccaaDoorMut
import Derived.LoopTactic
namespace Go.Proofs.YtpnondeaiinccaaDoor
open Go.RowKit
set_option linter.unusedVariables false
set_option maxRecDepth 100000
/-- the slice value v reads as the texts zs, out of a block below B -/
def Strs (w : World) (B : Nat) (v : Value) (zs : List ByteArray) : Prop :=
  ∃ A c, v = .slice A zs.length c ∧ (zs ≠ [] → ∃ g, A = some ⟨g, 0, none⟩ ∧ g < B ∧ ∀ (k : Nat) (z : ByteArray), zs[k]? = some z → w.cell? ⟨g, k, none⟩ = some (.string z))
theorem Strs.below {w w' : World} {B : Nat} {v : Value} {zs : List ByteArray} (h : Strs w B v zs) (hb : Below B w w') : Strs w' B v zs := by
  obtain ⟨A, c, hv, hc⟩ := h
  refine ⟨A, c, hv, fun hne => ?_⟩
  obtain ⟨g, hA, hg, hcell⟩ := hc hne
  exact ⟨g, hA, hg, fun k z hk => (hb.cell (p := ⟨g, _, none⟩) hg).trans (hcell k z hk)⟩
theorem Strs.more {w : World} {B B' : Nat} {v : Value} {zs : List ByteArray} (h : Strs w B v zs) (hB : B ≤ B') : Strs w B' v zs := by
  obtain ⟨A, c, hv, hc⟩ := h
  refine ⟨A, c, hv, fun hne => ?_⟩
  obtain ⟨g, hA, hg, hcell⟩ := hc hne
  exact ⟨g, hA, by omega, hcell⟩
theorem Strs.len {w : World} {B : Nat} {v : Value} {zs : List ByteArray} (h : Strs w B v zs) : ∃ A c, v = .slice A zs.length c := by
  obtain ⟨A, c, hv, _⟩ := h; exact ⟨A, c, hv⟩
/-- the total of numerals, added to t one after the other -/
def totalFrom : ByteArray → List ByteArray → Option ByteArray
  | t, [] => some t
  | t, z :: zs => match sumO t z with
    | none => none
    | some x => totalFrom x zs
def nought : ByteArray := ⟨#[48]⟩
def totalO (zs : List ByteArray) : Option ByteArray := if 9 < zs.length then none else totalFrom nought zs
theorem totalO_long {zs : List ByteArray} (h : 9 < zs.length) : totalO zs = none := by unfold totalO; rw [if_pos h]
theorem totalO_short {zs : List ByteArray} (h : ¬ 9 < zs.length) : totalO zs = totalFrom nought zs := by unfold totalO; rw [if_neg h]
theorem totalFrom_none {t z : ByteArray} {zs : List ByteArray} (h : sumO t z = none) : totalFrom t (z :: zs) = none := by rw [totalFrom, h]
theorem totalFrom_some {t z x : ByteArray} {zs : List ByteArray} (h : sumO t z = some x) : totalFrom t (z :: zs) = totalFrom x zs := by rw [totalFrom, h]
theorem sumO_size {s t x : ByteArray} (h : sumO s t = some x) : x.size ≤ 9 := by
  unfold sumO at h
  by_cases hne : addedL s t = []
  · rw [hne, writtenO_nil] at h; cases h
  · by_cases hw : wAdd (addedL s t) = -1
    · rw [writtenO_ok hne hw] at h
      by_cases hlt : val (digB (withL (addedL s t))) < 1000000000
      · rw [plainO_with_ok hlt] at h
        obtain rfl := Option.some.inj h
        have hn : numOkS (decS (val (digB (withL (addedL s t))))) = true := by rw [decS_ok]; simp [hlt]
        exact (numOkS_size hn).2
      · rw [plainO_big (by omega)] at h; cases h
    · rw [writtenO_no hw] at h; cases h
set_option maxHeartbeats 3200000 in
theorem i_totalOf (v : Value) (zs : List ByteArray) (w : World) (hv : Strs w w.heap.size v zs) (hl : zs.length ≤ 1048576) (hz : ∀ (k : Nat) (z : ByteArray), zs[k]? = some z → z.size ≤ maxLen) :
    Calls Tryd.prog 14 #[v] w fun e w' => e = .returned (.tuple #[.string (strTxt (totalO zs)), .bool (totalO zs).isSome]) ∧ Below w.heap.size w w' := by
  obtain ⟨A, cap, rfl, hc⟩ := hv
  by_cases h9 : 9 < zs.length
  · rw [totalO_long h9]
    go_enter Tryd.func14, Tryd.ntmps14
    go_wp2_with fail
    go_ret2
    exact ⟨rfl, Below.refl _ _⟩
  · rw [totalO_short h9]
    have HC := Lib.hid hc
    have HZ := Lib.hid hz
    have h91 : zs.length ≤ 9 := by omega
    clear hc hz
    go_enter Tryd.func14, Tryd.ntmps14
    go_wp2_with fail
    go_loopw [4, 6, 7, 8, 14] (fun t _ _ _ i wr => ∃ (k : Nat) (x : ByteArray), k ≤ zs.length ∧ i = .int .i64 k ∧ t = .string x ∧ x.size ≤ 9 ∧ Go.RowKit.Hid (totalFrom nought zs = totalFrom x (zs.drop k)) ∧ Below w.heap.size w wr) (fun _ _ _ _ i _ => zs.length - (intOf i).toNat)
    case atStart => exact ⟨0, nought, Nat.zero_le _, rfl, rfl, by decide, Lib.hid rfl, Below.refl _ _⟩
    case round =>
      obtain ⟨k, x, hk, rfl, rfl, hx, HE, hb⟩ := hrel
      by_cases hlt : k < zs.length
      · obtain ⟨g, rfl, hg, hcell⟩ := HC.out (fun e => by rw [e] at hlt; simp at hlt)
        obtain ⟨z, hzk⟩ : ∃ z, zs[k]? = some z := ⟨_, List.getElem?_eq_getElem hlt⟩
        have hzm := HZ.out k z hzk
        have h0 := (hb.cell (p := ⟨g, k, none⟩) hg).trans (hcell k z hzk)
        have hd : zs.drop k = z :: zs.drop (k + 1) := by
          have e := (List.getElem?_eq_some_iff.1 hzk).2
          rw [List.drop_eq_getElem_cons hlt, e]
        have HD := Lib.hid hd
        have hxm : x.size ≤ maxLen := by unfold maxLen; omega
        have h1 := fun W => i_sumOf x z W hxm hzm
        clear hzk hcell hd
        cases ho : sumO x z with
        | none =>
          rw [ho] at h1
          have H1 := Lib.hid h1
          have HT := Lib.hid (show totalFrom nought zs = none by rw [HE.out, HD.out, totalFrom_none ho])
          clear h1 ho
          go_wp2_with fail
          refine (H1.out _).mono ?_
          rintro e w2 ⟨he, b2⟩
          obtain rfl : e = .returned (.tuple #[.string ⟨#[]⟩, .bool false]) := he
          have HB := Lib.hid (hb.trans (b2.mono hb.size))
          clear b2
          go_wp2_with fail
          go_ret2
          exact ⟨by rw [HT.out]; rfl, HB.out⟩
        | some y =>
          rw [ho] at h1
          have H1 := Lib.hid h1
          have HT := Lib.hid (show totalFrom nought zs = totalFrom y (zs.drop (k + 1)) by rw [HE.out, HD.out, totalFrom_some ho])
          have hy := sumO_size ho
          clear h1 ho
          go_wp2_with fail
          refine (H1.out _).mono ?_
          rintro e w2 ⟨he, b2⟩
          obtain rfl : e = .returned (.tuple #[.string y, .bool true]) := he
          have HB := Lib.hid (hb.trans (b2.mono hb.size))
          clear b2
          go_wp2_with fail
          go_roundw
          case rel => exact ⟨k + 1, y, by omega, by go_num, rfl, hy, HT, HB.out⟩
          case measure => simp [intOf]; omega
      · obtain rfl : k = zs.length := by omega
        have HT := Lib.hid (show totalFrom nought zs = some x by rw [HE.out, List.drop_length]; rfl)
        go_wp2_with fail
        go_ret2
        exact ⟨by rw [HT.out]; rfl, hb⟩
set_option maxHeartbeats 3200000 in
theorem s_totalOf (v : Value) (zs : List ByteArray) (w : World) (hv : Strs w w.heap.size v zs) (hl : zs.length ≤ 1048576) (hz : ∀ (k : Nat) (z : ByteArray), zs[k]? = some z → z.size ≤ maxLen) :
    Calls Tryd.prog 15 #[v] w fun e w' => e = .returned (.tuple #[.string (strTxt (totalO zs)), .bool (totalO zs).isSome]) ∧ Below w.heap.size w w' := by
  obtain ⟨A, cap, rfl, hc⟩ := hv
  by_cases h9 : 9 < zs.length
  · rw [totalO_long h9]
    obtain ⟨g, rfl, hg, hcell⟩ := hc (fun e => by rw [e] at h9; simp at h9)
    obtain ⟨z, hzk⟩ : ∃ z, zs[0]? = some z := ⟨_, List.getElem?_eq_getElem (by omega)⟩
    have hzm := hz 0 z hzk
    have h0 := hcell 0 z hzk
    have h1 := fun W => s_sumOf nought z W (by unfold maxLen; decide) hzm
    clear hzk hcell hz hc
    have h92 : (9 : Int) < (zs.length : Int) := by omega
    have h93 : (0 : Int) < (zs.length : Int) := by omega
    go_enter Tryd.func15, Tryd.ntmps15
    go_wp2_with fail
    go_loopw [4, 5, 6, 7] (fun t i _ _ wr => i = .int .i64 0 ∧ t = .string nought ∧ w = wr) (fun _ _ _ _ _ => 0)
    case atStart => exact ⟨rfl, rfl, rfl⟩
    case round =>
      obtain ⟨rfl, rfl, rfl⟩ := hrel
      cases ho : sumO nought z with
      | none =>
        rw [ho] at h1
        have H1 := Lib.hid h1
        clear h1 ho
        go_wp2_with fail
        refine (H1.out _).mono ?_
        rintro e w2 ⟨he, b2⟩
        obtain rfl : e = .returned (.tuple #[.string ⟨#[]⟩, .bool false]) := he
        go_wp2_with fail
        go_ret2
        exact ⟨rfl, b2⟩
      | some y =>
        rw [ho] at h1
        have H1 := Lib.hid h1
        clear h1 ho
        go_wp2_with fail
        refine (H1.out _).mono ?_
        rintro e w2 ⟨he, b2⟩
        obtain rfl : e = .returned (.tuple #[.string y, .bool true]) := he
        go_wp2_with fail
        go_ret2
        exact ⟨rfl, b2⟩
  · rw [totalO_short h9]
    have HC := Lib.hid hc
    have HZ := Lib.hid hz
    have h91 : (zs.length : Int) ≤ 9 := by omega
    clear hc hz
    go_enter Tryd.func15, Tryd.ntmps15
    go_wp2_with fail
    go_loopw [4, 5, 6, 7] (fun t i _ _ wr => ∃ (k : Nat) (x : ByteArray), k ≤ zs.length ∧ i = .int .i64 k ∧ t = .string x ∧ x.size ≤ 9 ∧ Go.RowKit.Hid (totalFrom nought zs = totalFrom x (zs.drop k)) ∧ Below w.heap.size w wr) (fun _ i _ _ _ => zs.length - (intOf i).toNat)
    case atStart => exact ⟨0, nought, Nat.zero_le _, rfl, rfl, by decide, Lib.hid rfl, Below.refl _ _⟩
    case round =>
      obtain ⟨k, x, hk, rfl, rfl, hx, HE, hb⟩ := hrel
      by_cases hlt : k < zs.length
      · obtain ⟨g, rfl, hg, hcell⟩ := HC.out (fun e => by rw [e] at hlt; simp at hlt)
        obtain ⟨z, hzk⟩ : ∃ z, zs[k]? = some z := ⟨_, List.getElem?_eq_getElem hlt⟩
        have hzm := HZ.out k z hzk
        have h0 := (hb.cell (p := ⟨g, k, none⟩) hg).trans (hcell k z hzk)
        have hd : zs.drop k = z :: zs.drop (k + 1) := by
          have e := (List.getElem?_eq_some_iff.1 hzk).2
          rw [List.drop_eq_getElem_cons hlt, e]
        have HD := Lib.hid hd
        have hxm : x.size ≤ maxLen := by unfold maxLen; omega
        have h1 := fun W => s_sumOf x z W hxm hzm
        clear hzk hcell hd
        cases ho : sumO x z with
        | none =>
          rw [ho] at h1
          have H1 := Lib.hid h1
          have HT := Lib.hid (show totalFrom nought zs = none by rw [HE.out, HD.out, totalFrom_none ho])
          clear h1 ho
          go_wp2_with fail
          refine (H1.out _).mono ?_
          rintro e w2 ⟨he, b2⟩
          obtain rfl : e = .returned (.tuple #[.string ⟨#[]⟩, .bool false]) := he
          have HB := Lib.hid (hb.trans (b2.mono hb.size))
          clear b2
          go_wp2_with fail
          go_ret2
          exact ⟨by rw [HT.out]; rfl, HB.out⟩
        | some y =>
          rw [ho] at h1
          have H1 := Lib.hid h1
          have HT := Lib.hid (show totalFrom nought zs = totalFrom y (zs.drop (k + 1)) by rw [HE.out, HD.out, totalFrom_some ho])
          have hy := sumO_size ho
          clear h1 ho
          go_wp2_with fail
          refine (H1.out _).mono ?_
          rintro e w2 ⟨he, b2⟩
          obtain rfl : e = .returned (.tuple #[.string y, .bool true]) := he
          have HB := Lib.hid (hb.trans (b2.mono hb.size))
          clear b2
          go_wp2_with fail
          go_roundw
          case rel => exact ⟨k + 1, y, by omega, by go_num, rfl, hy, HT, HB.out⟩
          case measure => simp [intOf]; omega
      · obtain rfl : k = zs.length := by omega
        have HT := Lib.hid (show totalFrom nought zs = some x by rw [HE.out, List.drop_length]; rfl)
        go_wp2_with fail
        go_ret2
        exact ⟨by rw [HT.out]; rfl, hb⟩
end Go.Proofs.YtpnondeaiinccaaDoor
