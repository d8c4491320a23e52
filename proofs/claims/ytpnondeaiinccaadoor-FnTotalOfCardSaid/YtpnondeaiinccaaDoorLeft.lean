/- What the digits of transcripts tell: walks of impl.numbers at each closure, LeftOf of the program and of the reference. -/
import Derived.Test.YtpnondeaiinccaaDoorNumbers
import Derived.Test.YtpnondeaiinccaaDoorPlainI
import Derived.Test.YtpnondeaiinccaaDoorCol3
import Derived.Test.YtpnondeaiinccaaDoorDec
namespace Go.Proofs.YtpnondeaiinccaaDoor
open Go.RowKit
set_option linter.unusedVariables false
set_option maxRecDepth 100000
/-- the numbers g of the columns, from the back to the front -/
def revN (g : Col → Int) (cs : List Col) : List Int := (cs.map g).reverse
theorem revN_length (g : Col → Int) (cs : List Col) : (revN g cs).length = cs.length := by simp [revN]
theorem digB_revN (g : Col → Int) (cs : List Col) : digB (revN g cs) = digs g cs := by
  unfold digB revN digs
  rw [List.map_reverse, List.map_map]; rfl
theorem gotten_back (g : Col → Int) (cs : List Col) : gotten g (backP cs cs.length) = (revN g cs).map (Value.int .i64) := by
  unfold gotten backP revN
  apply List.ext_getElem
  · simp
  · intro i h1 h2
    have hi : i < cs.length := by simpa using h1
    simp only [List.getElem_map, List.getElem_range, List.getElem_reverse, List.length_map]
    unfold colAt
    rw [List.getElem?_eq_getElem (by omega)]
    rfl
theorem Dig_rev {g : Col → Int} {cs : List Col} (h : allD g cs) : Dig (revN g cs) := by
  intro d hd
  unfold revN at hd
  rw [List.mem_reverse] at hd
  obtain ⟨c, hc, rfl⟩ := List.mem_map.1 hd
  exact h c hc
set_option maxHeartbeats 400000 in
theorem i_written (c : Col) (w : World) : Calls Tryd.prog 64 #[.agg #[.int .i64 c.a, .int .i64 c.b, .int .i64 c.i, .int .i64 c.d, .int .i64 c.o]] w fun e w' => e = .returned (.int .i64 c.d) ∧ Below w.heap.size w w' := by
  go_enter Tryd.func64, Tryd.ntmps64
  go_wp2
  go_ret
  exact ⟨rfl, (Below.refl _ _).alloc (Nat.le_refl _) _⟩
theorem numbers_of (fo : FuncId) (g : Col → Int) (he : ∀ args w, (callFunc fo args).run Tryd.prog w = .ok (.enter fo args) w)
    (hof : ∀ (c : Col) (W : World), Calls Tryd.prog fo #[.agg #[.int .i64 c.a, .int .i64 c.b, .int .i64 c.i, .int .i64 c.d, .int .i64 c.o]] W fun e w' => e = .returned (.int .i64 (g c)) ∧ Below W.heap.size W w')
    (v : Value) (cs : List Col) (w : World) (hv : Cols w w.heap.size v cs) (hl : cs.length ≤ 1048576) :
    Calls Tryd.prog 63 #[v, .func (.func fo) #[] #[]] w fun e w' => ∃ u, e = .returned u ∧ w'.ownsRow w.heap.size 3 1 u (revN g cs).length ((revN g cs).map (Value.int .i64)) ∧ Below w.heap.size w w' := by
  refine (callsIn_wide.1 (i_numbers_in fo g he hof v cs w hv hl)).mono ?_
  rintro e w' ⟨u, rfl, hr, hb⟩
  refine ⟨u, rfl, ?_, hb⟩
  rw [revN_length, ← gotten_back]; exact hr
theorem i_numbersD (v : Value) (cs : List Col) (w : World) (hv : Cols w w.heap.size v cs) (hl : cs.length ≤ 1048576) :
    Calls Tryd.prog 63 #[v, .func (.func 64) #[] #[]] w fun e w' => ∃ u, e = .returned u ∧ w'.ownsRow w.heap.size 3 1 u (revN Col.d cs).length ((revN Col.d cs).map (Value.int .i64)) ∧ Below w.heap.size w w' :=
  numbers_of _ Col.d (enters_of Tryd.func64 (by kernel_rfl) rfl) i_written v cs w hv hl
def leftO (cs : List Col) : Option ByteArray := if cs = [] ∨ wTake cs ≠ -1 then none else some (decS (val (digs Col.d cs)))
theorem leftO_nil : leftO [] = none := rfl
theorem leftO_no {cs : List Col} (h : wTake cs ≠ -1) : leftO cs = none := by unfold leftO; rw [if_pos (.inr h)]
theorem leftO_ok {cs : List Col} (hne : cs ≠ []) (h : wTake cs = -1) : leftO cs = some (decS (val (digs Col.d cs))) := by unfold leftO; rw [if_neg (by simp [hne, h])]
theorem digs_lt {g : Col → Int} {cs : List Col} (h : allD g cs) (hl : cs.length ≤ 9) : val (digs g cs) < 1000000000 := by
  have h1 := digs_val h
  have h2 := (intV_bd h).2
  have h3 : p10 cs.length ≤ 1000000000 := by
    rw [p10_eq]
    have : 10 ^ cs.length ≤ 10 ^ 9 := Nat.pow_le_pow_right (by omega) hl
    have e : (10 : Nat) ^ 9 = 1000000000 := by decide
    omega
  omega
theorem wTake_dig {cs : List Col} (h : wTake cs = -1) : allD Col.d cs ∧ cs.length ≤ 9 :=
  ⟨(single_allD (ok_single (fun _ hr => (rTake_iff.1 hr).1) cs 0 (wTake_ok h).2.1)).2.2, (wTake_ok h).1⟩
theorem plainO_digs {g : Col → Int} {cs : List Col} (hne : cs ≠ []) (h : val (digs g cs) < 1000000000) : plainO (revN g cs) = some (decS (val (digs g cs))) := by
  rw [plainO_ok (by intro e; apply hne; have := congrArg List.length e; rw [revN_length] at this; exact List.eq_nil_of_length_eq_zero this) (by rw [digB_revN]; exact h), digB_revN]
theorem trimS_digs {g : Col → Int} {cs : List Col} (hne : cs ≠ []) (h : allD g cs) : trimS ⟨(digs g cs).toArray⟩ = decS (val (digs g cs)) := by
  have hl : (digs g cs).length = cs.length := digs_length g cs
  have hz := trimZ_dec (digs_all h)
  have hs : ByteArray.size ⟨(digs g cs).toArray⟩ = cs.length := by
    show (digs g cs).toArray.size = _
    rw [List.size_toArray, hl]
  unfold trimS decS
  rw [← hz]
  split
  · rename_i h1
    rw [hs] at h1
    have : cs.length ≠ 0 := fun e => hne (List.eq_nil_of_length_eq_zero e)
    generalize digs g cs = l at *
    match l, hl with
    | [b], _ => rw [trimZ_one]
    | [], hl => simp at hl; omega
    | _ :: _ :: _, hl => simp at hl; omega
  · rfl
set_option maxHeartbeats 1600000 in
theorem i_leftOf (v : Value) (cs : List Col) (w : World) (hv : Cols w w.heap.size v cs) (hl : cs.length ≤ 1048576) :
    Calls Tryd.prog 24 #[v] w fun e w' => e = strOk (leftO cs) ∧ Below w.heap.size w w' := by
  obtain ⟨A, cap, rfl, hc⟩ := id hv
  by_cases hne : cs = []
  · subst hne
    go_enter Tryd.func24, Tryd.ntmps24
    go_wp2
    go_ret2
    exact ⟨rfl, Below.refl _ _⟩
  · have hpos : 0 < cs.length := by
      rcases Nat.eq_zero_or_pos cs.length with h | h
      · exact absurd (List.eq_nil_of_length_eq_zero h) hne
      · exact h
    have t0 : ((cs.length : Int) == 0) = false := by simp; omega
    by_cases hw : wTake cs = -1
    · obtain ⟨hd, h9⟩ := wTake_dig hw
      have H := Lib.hid ((plainO_digs hne (digs_lt hd h9)).trans (leftO_ok hne hw).symm)
      have t1 : (wTake cs != -1) = false := by simp [hw]
      have HD := Lib.hid hd
      clear hw hne hc hd
      go_enter Tryd.func24, Tryd.ntmps24
      go_wp2_with (go_at_call 39; refine (i_wrongTaken _ cs _ hv hl).mono ?_; rintro e w1 ⟨rfl, hb1⟩)
      refine (i_numbersD _ cs _ ((hv.below hb1).more hb1.size) hl).mono ?_
      rintro e w2 ⟨u, rfl, hu, hb2⟩
      have HU := Lib.hid (Ints.of_own hu)
      clear hu
      go_wp2_with fail
      refine (i_plain u _ _ HU.out (by rw [revN_length]; omega) (Dig_rev HD.out)).mono ?_
      rintro e w3 ⟨he, hb3⟩
      rw [H.out] at he
      have hb12 := hb1.trans (hb2.mono hb1.size)
      have hb13 := hb12.trans (hb3.mono hb12.size)
      cases ho : leftO cs with
      | none =>
        rw [ho] at he
        obtain rfl : e = .returned (.tuple #[.string ⟨#[]⟩, .bool false]) := he
        go_wp2_with fail
        go_ret2
        exact ⟨by rw [ho]; rfl, hb13⟩
      | some x =>
        rw [ho] at he
        obtain rfl : e = .returned (.tuple #[.string x, .bool true]) := he
        go_wp2_with fail
        go_ret2
        exact ⟨by rw [ho]; rfl, hb13⟩
    · have H := Lib.hid (strOk_none (leftO_no hw))
      have t1 : (wTake cs != -1) = true := by simp [hw]
      clear hw hne
      go_enter Tryd.func24, Tryd.ntmps24
      go_wp2_with (go_at_call 39; refine (i_wrongTaken _ cs _ hv hl).mono ?_; rintro e w1 ⟨rfl, hb1⟩)
      go_ret2
      exact ⟨H.out, hb1⟩
theorem digs_drop {cs : List Col} {k : Nat} {c : Col} (g : Col → Int) (h : cs[k]? = some c) : digs g (cs.drop (k + 1)) ++ [byteOf (g c)] = digs g (cs.drop k) := by
  have hk : k < cs.length := (List.getElem?_eq_some_iff.1 h).1
  have e : cs.drop k = c :: cs.drop (k + 1) := by
    rw [List.drop_eq_getElem_cons hk]
    congr 1
    exact Option.some.inj ((List.getElem?_eq_getElem hk).symm.trans h)
  rw [e, digs_cons]
theorem ba_snoc (a : List UInt8) (b : UInt8) : (⟨a.toArray⟩ : ByteArray) ++ ⟨[b].toArray⟩ = ⟨(a ++ [b]).toArray⟩ := ba_append a [b]
theorem digs_size (g : Col → Int) (cs : List Col) : ByteArray.size ⟨(digs g cs).toArray⟩ = cs.length := by
  show (digs g cs).toArray.size = _
  rw [List.size_toArray, digs_length]
set_option maxHeartbeats 1600000 in
theorem s_leftOf (v : Value) (cs : List Col) (w : World) (hv : Cols w w.heap.size v cs) (hl : cs.length ≤ 1048576) :
    Calls Tryd.prog 25 #[v] w fun e w' => e = strOk (leftO cs) ∧ Below w.heap.size w w' := by
  obtain ⟨A, cap, rfl, hc⟩ := id hv
  by_cases hne : cs = []
  · subst hne
    go_enter Tryd.func25, Tryd.ntmps25
    go_wp2
    go_ret2
    exact ⟨rfl, Below.refl _ _⟩
  · have hpos : 0 < cs.length := by
      rcases Nat.eq_zero_or_pos cs.length with h | h
      · exact absurd (List.eq_nil_of_length_eq_zero h) hne
      · exact h
    have t0 : ((cs.length : Int) == 0) = false := by simp; omega
    by_cases hw : wTake cs = -1
    · obtain ⟨hd, h9⟩ := wTake_dig hw
      have H := Lib.hid (strOk_some (leftO_ok hne hw) (trimS_digs hne hd))
      have t1 : (wTake cs != -1) = false := by simp [hw]
      have HD := Lib.hid hd
      obtain ⟨g, rfl, hg, hcell⟩ := hc hne
      have HN := Lib.hid hcell
      have HV := Lib.hid hv
      clear hw hne hc hd hcell hv
      go_enter Tryd.func25, Tryd.ntmps25
      go_wp2_with (go_at_call 41; refine (s_wrongTaken _ cs _ HV.out hl).mono ?_; rintro e w1 ⟨rfl, hb1⟩)
      go_loopw [4, 5] (fun t i wr => ∃ k : Nat, k ≤ cs.length ∧ i = .int .i64 ((k : Int) - 1) ∧ t = .string ⟨(digs Col.d (cs.drop k)).toArray⟩ ∧ Below w.heap.size w wr) (fun _ i _ => (intOf i + 1).toNat)
      case atStart => exact ⟨cs.length, Nat.le_refl _, rfl, by rw [List.drop_length]; rfl, hb1⟩
      case round =>
        obtain ⟨k, hk, rfl, rfl, hb⟩ := hrel
        cases k with
        | zero =>
          have hsz : ByteArray.size ⟨(digs Col.d (cs.drop 0)).toArray⟩ ≤ maxLen := by rw [digs_size]; simp; unfold maxLen; omega
          have e0 : ((0 : Nat) : Int) - 1 = -1 := rfl
          rw [e0]
          clear e0
          go_wp2_with (go_at_call 66; refine (s_trim _ _ hsz).mono ?_; rintro e w2 ⟨rfl, rfl⟩)
          go_ret2
          exact ⟨H.out, hb⟩
        | succ m =>
          obtain ⟨c, hck⟩ : ∃ c, cs[m]? = some c := ⟨_, List.getElem?_eq_getElem hk⟩
          obtain ⟨h0, h1, h2, h3, h4⟩ := (HN.out m c hck).below hg hb
          have hd9 := HD.out c (List.mem_of_getElem? hck)
          have HT := Lib.hid (digs_drop Col.d hck)
          have HE := Lib.hid (dec_one hd9)
          have hsz : ByteArray.size ⟨(digs Col.d (cs.drop (m + 1))).toArray⟩ + 1 ≤ 9223372036854775807 := by rw [digs_size, List.length_drop]; omega
          have hsz1 : ByteArray.size ⟨(Lib.decDigits c.d.toNat).toArray⟩ = 1 := by rw [HE.out]; rfl
          have em : ((m + 1 : Nat) : Int) - 1 = (m : Int) := by omega
          have hmc : m < cs.length := by omega
          rw [em]
          clear hck em
          go_wp2_with (go_at_call 65; refine (s_l1Number_small _ _ hd9.1 hd9.2).mono ?_; rintro e w2 ⟨rfl, hb2⟩)
          go_roundw
          case rel => exact ⟨m, by omega, by go_num, by rw [HE.out, ba_snoc, HT.out], hb.trans (hb2.mono hb.size)⟩
          case measure => simp [intOf]
    · have H := Lib.hid (strOk_none (leftO_no hw))
      have t1 : (wTake cs != -1) = true := by simp [hw]
      clear hw hne
      go_enter Tryd.func25, Tryd.ntmps25
      go_wp2_with (go_at_call 41; refine (s_wrongTaken _ cs _ hv hl).mono ?_; rintro e w1 ⟨rfl, hb1⟩)
      go_ret2
      exact ⟨H.out, hb1⟩
end Go.Proofs.YtpnondeaiinccaaDoor
