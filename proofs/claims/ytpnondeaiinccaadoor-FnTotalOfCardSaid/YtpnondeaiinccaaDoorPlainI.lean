/- Walk of impl.plain: digits as a text, without noughts ahead. -/
import Derived.Test.YtpnondeaiinccaaDoorBuild
import Derived.Test.YtpnondeaiinccaaDoorStrOk
import Derived.Test.YtpnondeaiinccaaDoorMem
import Derived.Test.YtpnondeaiinccaaDoorLaw1
import Derived.Test.YtpnondeaiinccaaDoorTrim
import Derived.LoopTactic
namespace Go.Proofs.YtpnondeaiinccaaDoor
open Go.RowKit
set_option linter.unusedVariables false
set_option maxRecDepth 100000
/-- the slice value v reads as the numbers ds, out of a block below B -/
def Ints (w : World) (B : Nat) (v : Value) (ds : List Int) : Prop :=
  ∃ A c, v = .slice A ds.length c ∧ (ds ≠ [] → ∃ g, A = some ⟨g, 0, none⟩ ∧ g < B ∧ ∀ k d, ds[k]? = some d → w.cell? ⟨g, k, none⟩ = some (.int .i64 d))
theorem Ints.below {w w' : World} {B : Nat} {v : Value} {ds : List Int} (h : Ints w B v ds) (hb : Below B w w') : Ints w' B v ds := by
  obtain ⟨A, c, hv, hc⟩ := h
  refine ⟨A, c, hv, fun hne => ?_⟩
  obtain ⟨g, hA, hg, hcell⟩ := hc hne
  exact ⟨g, hA, hg, fun k d hk => (hb.cell (p := ⟨g, k, none⟩) hg).trans (hcell k d hk)⟩
theorem Ints.of_own {w : World} {base : Nat} {e : TypeId} {v : Value} {ds : List Int} (h : w.ownsRow base e 1 v ds.length (ds.map (Value.int .i64))) : Ints w w.heap.size v ds := by
  rcases h.2 with ⟨rfl, hn⟩ | ⟨g, cap, cur, rfl, _, hh, _⟩
  · have e : ds = [] := List.eq_nil_of_length_eq_zero hn
    subst e
    exact ⟨none, 0, rfl, fun hne => absurd rfl hne⟩
  · refine ⟨_, cap, rfl, fun _ => ⟨g, rfl, (Array.getElem?_eq_some_iff.1 hh).1, fun k d hk => ?_⟩⟩
    have hkl : k < ds.length := (List.getElem?_eq_some_iff.1 hk).1
    rw [World.ownsRow.cellAt h k (by omega), List.getElem?_map, hk]; rfl
def digB (ds : List Int) : List UInt8 := ds.map byteOf
def Dig (ds : List Int) : Prop := ∀ d ∈ ds, 0 ≤ d ∧ d ≤ 9
theorem digB_take {ds : List Int} {k : Nat} {d : Int} (h : ds[k]? = some d) : digB (ds.take (k + 1)) = digB (ds.take k) ++ [byteOf d] := by
  unfold digB; rw [List.take_add_one, h, List.map_append]; rfl
theorem byteOf_isD {d : Int} (h : 0 ≤ d ∧ d ≤ 9) : isD (byteOf d) = true := by unfold byteOf; exact isD_ofNat (by omega)
theorem digB_all {ds : List Int} (h : Dig ds) : (digB ds).all isD = true := by
  unfold digB
  rw [List.all_eq_true]
  intro x hx
  obtain ⟨d, hd, rfl⟩ := List.mem_map.1 hx
  exact byteOf_isD (h d hd)
/-- what plain answers -/
def plainO (ds : List Int) : Option ByteArray := if ds = [] then none else if val (digB ds) < 1000000000 then some (decS (val (digB ds))) else none
theorem dec_one {d : Int} (h : 0 ≤ d ∧ d ≤ 9) : (⟨(Lib.decDigits d.toNat).toArray⟩ : ByteArray) = ⟨[byteOf d].toArray⟩ := by
  rw [Lib.decDigits_one (by omega)]; rfl
theorem cells_snoc (l : List UInt8) (b : UInt8) : Lib.byteCells l ++ Lib.strCells ⟨[b].toArray⟩ = Lib.byteCells (l ++ [b]) := by
  show Lib.byteCells l ++ Lib.byteCells [b] = _
  simp [Lib.byteCells]
/-- noughts ahead struck; what is left of nothing but noughts is one nought -/
theorem trimLeft_empty {l : List UInt8} (h : (Lib.trimLeftB l 48).isEmpty = true) : trimZ l = [48] := by
  have h' : Lib.trimLeftB l 48 = [] := by simpa using h
  unfold trimZ Lib.trimLeftB at *
  rw [h']; rfl
theorem trimLeft_some {l : List UInt8} (h : (Lib.trimLeftB l 48).isEmpty = false) : trimZ l = Lib.trimLeftB l 48 := by
  have h' : Lib.trimLeftB l 48 ≠ [] := by simpa using h
  unfold trimZ Lib.trimLeftB at *
  rw [if_neg h']
theorem plainO_nil : plainO [] = none := rfl
theorem plainO_ok {ds : List Int} (hne : ds ≠ []) (h : val (digB ds) < 1000000000) : plainO ds = some (decS (val (digB ds))) := by unfold plainO; rw [if_neg hne, if_pos h]
theorem plainO_big {ds : List Int} (h : ¬ val (digB ds) < 1000000000) : plainO ds = none := by
  unfold plainO
  by_cases hne : ds = []
  · rw [if_pos hne]
  · rw [if_neg hne, if_neg h]
theorem plain_nought {ds : List Int} (hd : Dig ds) (he : (Lib.trimLeftB (digB ds) 48).isEmpty = true) : val (digB ds) = 0 ∧ decS (val (digB ds)) = ⟨#[48]⟩ := by
  have h1 := trimZ_dec (digB_all hd)
  rw [trimLeft_empty he] at h1
  have h2 : val (digB ds) = 0 := by rw [← dec_val (val (digB ds)), ← h1]; rfl
  refine ⟨h2, ?_⟩
  unfold decS; rw [← h1]
theorem plain_text {ds : List Int} (hd : Dig ds) (he : (Lib.trimLeftB (digB ds) 48).isEmpty = false) : (ByteArray.mk (Lib.trimLeftB (digB ds) 48).toArray) = decS (val (digB ds)) := by
  have h1 := trimZ_dec (digB_all hd)
  rw [trimLeft_some he] at h1
  unfold decS; rw [h1]
theorem trimLeft_size {ds : List Int} (hl : ds.length ≤ 1000) : ByteArray.size (ByteArray.mk (Lib.trimLeftB (digB ds) 48).toArray) ≤ maxLen := by
  have h1 : (Lib.trimLeftB (digB ds) 48).length ≤ (digB ds).length := List.Sublist.length_le (List.dropWhile_sublist _)
  have h2 : (digB ds).length = ds.length := by simp [digB]
  show (Lib.trimLeftB (digB ds) 48).toArray.size ≤ maxLen
  rw [List.size_toArray]; unfold maxLen; omega
set_option maxRecDepth 100000 in
set_option maxHeartbeats 3200000 in
theorem i_plain (v : Value) (ds : List Int) (w : World) (hv : Ints w w.heap.size v ds) (hl : ds.length ≤ 1000) (hd : Dig ds) :
    Calls Tryd.prog 62 #[v] w fun e w' => e = strOk (plainO ds) ∧ Below w.heap.size w w' := by
  obtain ⟨A, cap, rfl, hc⟩ := hv
  have HC := Lib.hid hc
  have HD := Lib.hid hd
  clear hc hd
  have hB0 : Lib.IsBuilder 73 5 w.heap.size w.heap.size (Lib.byteCells (digB (ds.take 0))) (w.alloc (.cells #[.pointer none, .slice none 0 0] 73)) := by
    refine .inl ⟨Nat.le_refl _, .slice none 0 0, heap_alloc_new w _, World.ownsRow_nil _ _ _ _, by simp [Value.ownBlock]⟩
  have HB0 := Lib.hid hB0
  clear hB0
  go_enter Tryd.func62, Tryd.ntmps62
  go_wp2
  go_loopw [6, 10] (fun _ i wr => ∃ k : Nat, k ≤ ds.length ∧ i = .int .i64 k ∧ Lib.IsBuilder 73 5 w.heap.size w.heap.size (Lib.byteCells (digB (ds.take k))) wr ∧ Below w.heap.size w wr) (fun _ i _ => ds.length - (intOf i).toNat)
  case atStart => exact ⟨0, Nat.zero_le _, rfl, HB0.out, (Below.refl _ _).alloc (Nat.le_refl _) _⟩
  case round =>
    obtain ⟨k, hk, rfl, hbl, hb⟩ := hrel
    have HBL := Lib.hid hbl
    clear hbl
    by_cases hlt : k < ds.length
    · obtain ⟨d, hdk⟩ : ∃ d, ds[k]? = some d := ⟨_, List.getElem?_eq_getElem hlt⟩
      obtain ⟨g, rfl, hg, hcell⟩ := HC.out (fun e => by rw [e] at hlt; simp at hlt)
      have c0 := (hb.cell (p := ⟨g, k, none⟩) hg).trans (hcell k d hdk)
      have hgr : g < wr.heap.size := Nat.lt_of_lt_of_le hg hb.size
      have hd9 := HD.out d (List.mem_of_getElem? hdk)
      obtain ⟨m, hm⟩ : ∃ m : Nat, d = (m : Int) := ⟨d.toNat, by omega⟩
      have HE := Lib.hid (show (⟨(Lib.decDigits m).toArray⟩ : ByteArray) = ⟨[byteOf d].toArray⟩ by have := dec_one hd9; rwa [show d.toNat = m by omega] at this)
      have HT := Lib.hid (digB_take hdk)
      have hm9 : m < 100 := by omega
      have HM := Lib.hid hm
      subst hm
      have hlen : (Lib.byteCells (digB (ds.take k))).length + ByteArray.size ⟨(Lib.decDigits m).toArray⟩ ≤ 140737488355328 := by
        rw [HE.out]
        have e1 : (Lib.byteCells (digB (ds.take k))).length = (ds.take k).length := by simp [Lib.byteCells, digB]
        have e2 : ByteArray.size ⟨[byteOf (m : Int)].toArray⟩ = 1 := rfl
        rw [e1, e2, List.length_take]; omega
      clear hcell hdk
      go_wp2_with (first | (go_at_call 92; refine (Tryd.strconv_Itoa_small m hm9 _).mono ?_; rintro e w1 ⟨rfl, rfl⟩) | (go_at_call 91; refine (b_writeString w.heap.size w.heap.size _ _ _ HBL.out hlen hb.size).mono ?_; rintro e w1 ⟨rfl, hbl1, hb1⟩))
      have HBL1 := Lib.hid hbl1
      clear hbl1
      go_roundw
      case rel => exact ⟨k + 1, by omega, by go_num, by have h := HBL1.out; rw [HE.out, cells_snoc, ← HT.out] at h; exact .inr h, hb.trans hb1⟩
      case measure => simp [intOf]; omega
    · obtain rfl : k = ds.length := by omega
      rw [List.take_length] at HBL
      by_cases hne : ds = []
      · subst hne
        have he : (Lib.trimLeftB (digB []) 48).isEmpty = true := rfl
        have h0 : ([] : List Int).length = 0 := rfl
        go_wp2_with (first | (go_at_call 94; refine (Tryd.Builder_String_any w.heap.size w.heap.size _ _ HBL.out hb.size).mono ?_; rintro e w1 ⟨rfl, hb1⟩) | (go_at_call 93; refine (Tryd.strings_TrimLeft_one _ 48 (by decide) _).mono ?_; rintro e w2 ⟨rfl, rfl⟩))
        all_goals
          go_ret2
          exact ⟨rfl, hb.trans hb1⟩
      · have hpos : 0 < ds.length := by
          rcases Nat.eq_zero_or_pos ds.length with h | h
          · exact absurd (List.eq_nil_of_length_eq_zero h) hne
          · exact h
        have t0 : ((ds.length : Int) == 0) = false := by simp; omega
        by_cases he : (Lib.trimLeftB (digB ds) 48).isEmpty = true
        · obtain ⟨h1, h2⟩ := plain_nought HD.out he
          have H := Lib.hid (strOk_some (plainO_ok hne (by omega)) h2.symm)
          have t1 : numOkS ⟨#[48]⟩ = true := rfl
          clear h1 h2 hne
          go_wp2_with (first | (go_at_call 94; refine (Tryd.Builder_String_any w.heap.size w.heap.size _ _ HBL.out hb.size).mono ?_; rintro e w1 ⟨rfl, hb1⟩) | (go_at_call 93; refine (Tryd.strings_TrimLeft_one _ 48 (by decide) _).mono ?_; rintro e w2 ⟨rfl, rfl⟩) | (go_at_call 27; refine (i_numeralOk _ _ (by decide)).mono ?_; rintro e w' ⟨rfl, rfl⟩))
          go_ret2
          exact ⟨H.out, hb.trans hb1⟩
        · have he' := ne_true he
          have hx := plain_text HD.out he'
          have hsz := trimLeft_size hl
          clear he
          by_cases hV : val (digB ds) < 1000000000
          · have H := Lib.hid (strOk_some (plainO_ok hne hV) hx)
            have t1 : numOkS (ByteArray.mk (Lib.trimLeftB (digB ds) 48).toArray) = true := by rw [hx, decS_ok]; simp [hV]
            clear hx hne
            go_wp2_with (first | (go_at_call 94; refine (Tryd.Builder_String_any w.heap.size w.heap.size _ _ HBL.out hb.size).mono ?_; rintro e w1 ⟨rfl, hb1⟩) | (go_at_call 93; refine (Tryd.strings_TrimLeft_one _ 48 (by decide) _).mono ?_; rintro e w2 ⟨rfl, rfl⟩) | (go_at_call 27; refine (i_numeralOk _ _ hsz).mono ?_; rintro e w' ⟨rfl, rfl⟩))
            go_ret2
            exact ⟨H.out, hb.trans hb1⟩
          · have H := Lib.hid (strOk_none (plainO_big hV))
            have t1 : numOkS (ByteArray.mk (Lib.trimLeftB (digB ds) 48).toArray) = false := by rw [hx, decS_ok]; simp; omega
            clear hx hne
            go_wp2_with (first | (go_at_call 94; refine (Tryd.Builder_String_any w.heap.size w.heap.size _ _ HBL.out hb.size).mono ?_; rintro e w1 ⟨rfl, hb1⟩) | (go_at_call 93; refine (Tryd.strings_TrimLeft_one _ 48 (by decide) _).mono ?_; rintro e w2 ⟨rfl, rfl⟩) | (go_at_call 27; refine (i_numeralOk _ _ hsz).mono ?_; rintro e w' ⟨rfl, rfl⟩))
            go_ret2
            exact ⟨H.out, hb.trans hb1⟩
end Go.Proofs.YtpnondeaiinccaaDoor
