/- Walk of the drawing of a numeral: nothing is said of the text but that it is short. -/
import Derived.Test.YtpnondeaiinccaaDoorDraw0
import Derived.Test.YtpnondeaiinccaaDoorDec
namespace Go.Proofs.YtpnondeaiinccaaDoor
open Go.RowKit
set_option linter.unusedVariables false

theorem five_ints (k1 k2 k3 k4 : Nat) (h1 : k1 ≤ 9) (h2 : k2 ≤ 9) (h3 : k3 ≤ 9) (h4 : k4 < 5) :
    ∃ d : Nat, d ≤ 9 ∧ (#[Value.int .i64 0, .int .i64 9, .int .i64 (k1 : Int), .int .i64 (k2 : Int), .int .i64 (k3 : Int)] : Array Value)[k4]? = some (.int .i64 (d : Int)) := by
  match k4, h4 with
  | 0, _ => exact ⟨0, by omega, rfl⟩
  | 1, _ => exact ⟨9, by omega, rfl⟩
  | 2, _ => exact ⟨k1, h1, rfl⟩
  | 3, _ => exact ⟨k2, h2, rfl⟩
  | 4, _ => exact ⟨k3, h3, rfl⟩
theorem five_strs (a b c d e : ByteArray) (k4 : Nat) (ha : a.size ≤ 11) (hb : b.size ≤ 11) (hc : c.size ≤ 11) (hd : d.size ≤ 11) (he : e.size ≤ 11) (h4 : k4 < 5) :
    ∃ t : ByteArray, t.size ≤ 11 ∧ (#[Value.string a, .string b, .string c, .string d, .string e] : Array Value)[k4]? = some (.string t) := by
  match k4, h4 with
  | 0, _ => exact ⟨a, ha, rfl⟩
  | 1, _ => exact ⟨b, hb, rfl⟩
  | 2, _ => exact ⟨c, hc, rfl⟩
  | 3, _ => exact ⟨d, hd, rfl⟩
  | 4, _ => exact ⟨e, he, rfl⟩
theorem dec_one_len {d : Nat} (h : d ≤ 9) : (Lib.decDigits d).length = 1 := by rw [Lib.decDigits_one (by omega)]; rfl

theorem s_pickI (R p : Nat) (n : Int) (w : World) (hr : Rdr w R p) (h1 : 1 ≤ n) (h2 : n ≤ 100000) (hp : p ≤ 100000) :
    Calls Tryd.prog 54 #[.pointer (some ⟨R, 0, none⟩), .int .i64 n] w fun e w' => ∃ k : Nat, (k : Int) < n ∧ e = .returned (.int .i64 (k : Int)) ∧ Rdr w' R (p + 1) ∧ Only R w w' := by
  obtain ⟨m, rfl⟩ := Int.eq_ofNat_of_zero_le (show 0 ≤ n by omega)
  refine (s_pick R p m w hr (by omega) (by omega) hp).mono ?_
  rintro e w' ⟨k, hk, he, h3, h4⟩
  exact ⟨k, by omega, he, h3, h4⟩
def OddPost (R p : Nat) (w : World) (e : Ending) (w' : World) : Prop := ∃ (b : Bool) (p' : Nat), e = .returned (.bool b) ∧ p' ≤ p + 1 ∧ Rdr w' R p' ∧ Only R w w'
set_option maxHeartbeats 800000 in
theorem s_odd (R p : Nat) (n : Int) (w : World) (hr : Rdr w R p) (h1 : 0 ≤ n) (h2 : n ≤ 100000) (hp : p ≤ 100000) :
    Calls Tryd.prog 56 #[.pointer (some ⟨R, 0, none⟩), .int .i64 n] w (OddPost R p w) := by
  by_cases h0 : 0 < n
  · go_enter Tryd.func56, Tryd.ntmps56
    go_wp2_with (go_at_call 54; refine (s_pickI R p n _ hr (by omega) h2 hp).mono ?_; rintro e w1 ⟨k, hk, rfl, hr1, ho1⟩)
    go_ret
    exact ⟨_, p + 1, rfl, Nat.le_refl _, hr1, ho1⟩
  · go_enter Tryd.func56, Tryd.ntmps56
    go_wp2
    go_ret
    exact ⟨false, p, rfl, by omega, hr, Only.refl _ _⟩
theorem dec_any {d : Nat} (h : d ≤ 9) : ByteArray.size ⟨(Lib.decDigits d).toArray⟩ = 1 := by
  show (Lib.decDigits d).toArray.size = 1
  rw [List.size_toArray, dec_one_len h]
set_option maxRecDepth 100000 in
set_option maxHeartbeats 6400000 in
theorem s_numeral (R p : Nat) (most n : Int) (w : World) (hr : Rdr w R p) (hm1 : 1 ≤ most) (hm2 : most ≤ 9) (hn1 : 0 ≤ n) (hn2 : n ≤ 1000) (hp : p ≤ 50000) :
    Calls Tryd.prog 55 #[.pointer (some ⟨R, 0, none⟩), .int .i64 most, .int .i64 n] w fun e w' => ∃ (t : ByteArray) (p' : Nat), t.size ≤ 11 ∧ e = .returned (.string t) ∧ p' ≤ p + 70 ∧ Rdr w' R p' ∧ Only R w w' := by
  have hRw := hr.lt
  go_enter Tryd.func55, Tryd.ntmps55
  go_wp2_with fail
  refine (s_pickI R p most _ hr hm1 (by omega) (by omega)).mono ?_
  rintro e w1 ⟨k0, hk0, rfl, hr1, ho1⟩
  go_wp2_with fail
  go_loopw [7, 8, 9] (fun s k _ wr => ∃ (l : ByteArray) (j p' : Nat), s = .string l ∧ k = .int .i64 (j : Int) ∧ l.size + j ≤ 9 ∧ p' + 6 * j ≤ p + 1 + 54 ∧ Rdr wr R p' ∧ Only R w wr) (fun _ k _ _ => (intOf k).toNat)
  case atStart => exact ⟨ByteArray.empty, 1 + k0, p + 1, rfl, by go_num, by simp; omega, by omega, hr1, ho1⟩
  case round =>
    obtain ⟨l, j, p', rfl, rfl, hlj, hpj, hrr, hoo⟩ := hrel
    by_cases hj : 0 < j
    · go_wp2_with fail
      refine (s_pickI R p' 10 _ hrr (by omega) (by omega) (by omega)).mono ?_
      rintro e w2 ⟨k1, hk1, rfl, hr2, ho2⟩
      go_wp2_with fail
      refine (s_pickI R _ 10 _ hr2 (by omega) (by omega) (by omega)).mono ?_
      rintro e w3 ⟨k2, hk2, rfl, hr3, ho3⟩
      go_wp2_with fail
      refine (s_pickI R _ 10 _ hr3 (by omega) (by omega) (by omega)).mono ?_
      rintro e w4 ⟨k3, hk3, rfl, hr4, ho4⟩
      go_wp2_with fail
      have hr4' := hr4.alloc (.cells #[.int .i64 0, .int .i64 9, .int .i64 (k1 : Int), .int .i64 (k2 : Int), .int .i64 (k3 : Int)] 3)
      have hb4 := Blk.new w4 3 #[.int .i64 0, .int .i64 9, .int .i64 (k1 : Int), .int .i64 (k2 : Int), .int .i64 (k3 : Int)]
      refine (s_pickI R _ 5 _ hr4' (by omega) (by omega) (by omega)).mono ?_
      rintro e w5 ⟨k4, hk4, rfl, hr5, ho5⟩
      have hne : w4.heap.size ≠ R := by have := hr4.lt; omega
      obtain ⟨d, hd9, hd⟩ := five_ints k1 k2 k3 k4 (by omega) (by omega) (by omega) (by omega)
      have hcell := ((ho5.blk hb4 hne).cell k4).trans hd
      have hw5 : Only R w w5 := (((hoo.trans ho2).trans ho3).trans ho4).trans ((World.grownBy_alloc w4 _ _).trans ho5)
      clear hd hb4 hr4' ho5 ho4 ho3 ho2 hr4 hr3 hr2 hrr hoo hne
      have hk40 : (0 : Int) ≤ (k4 : Int) := by omega
      have HE := Lib.hid (dec_any hd9)
      by_cases hc : (l.size = 0 ∧ 1 < j) ∧ d = 0
      · obtain ⟨⟨hl0, hj1⟩, hd0⟩ := hc
        have t1 : ((l.size : Int) == 0) = true := by simp [hl0]
        have t2 : ((d : Int) == 0) = true := by simp [hd0]
        have HL0 := Lib.hid hl0
        clear hl0 hd0
        go_wp2_with fail
        refine (s_pickI R _ 9 _ hr5 (by omega) (by omega) (by omega)).mono ?_
        rintro e w6 ⟨k5, hk5, rfl, hr6, ho6⟩
        have HE1 := Lib.hid (dec_any (d := 1 + k5) (by omega))
        go_wp2_with fail
        refine (s_l1Number_small _ _ (by omega) (by omega)).mono ?_
        rintro e w7 ⟨rfl, hb7⟩
        have en : ((1 : Int) + (k5 : Int)).toNat = 1 + k5 := by omega
        rw [en]
        have hs1 := HE1.out
        go_wp2_with fail
        go_roundw
        case rel => exact ⟨_, j - 1, _, rfl, by go_num, by rw [ByteArray.size_append, HE1.out]; have := HL0.out; omega, by omega, hr6.below hb7, (hw5.trans ho6).trans (Only.of_below hb7)⟩
        case measure => simp [intOf]; omega
      · have hs1 := HE.out
        by_cases hl0 : l.size = 0
        · by_cases hj1 : 1 < j
          · have hd0 : ¬ d = 0 := fun e => hc ⟨⟨hl0, hj1⟩, e⟩
            have t1 : ((l.size : Int) == 0) = true := by simp [hl0]
            have t2 : ((d : Int) == 0) = false := by simp; omega
            have HL0 := Lib.hid hl0
            clear hl0 hd0 hc
            go_wp2_with fail
            refine (s_l1Number_small _ _ (by omega) (by omega)).mono ?_
            rintro e w7 ⟨rfl, hb7⟩
            rw [Int.toNat_natCast]
            go_wp2_with fail
            go_roundw
            case rel => exact ⟨_, j - 1, _, rfl, by go_num, by rw [ByteArray.size_append, HE.out]; omega, by omega, hr5.below hb7, hw5.trans (Only.of_below hb7)⟩
            case measure => simp [intOf]; omega
          · have t1 : ((l.size : Int) == 0) = true := by simp [hl0]
            have HL0 := Lib.hid hl0
            clear hl0 hc
            go_wp2_with fail
            refine (s_l1Number_small _ _ (by omega) (by omega)).mono ?_
            rintro e w7 ⟨rfl, hb7⟩
            rw [Int.toNat_natCast]
            go_wp2_with fail
            go_roundw
            case rel => exact ⟨_, j - 1, _, rfl, by go_num, by rw [ByteArray.size_append, HE.out]; omega, by omega, hr5.below hb7, hw5.trans (Only.of_below hb7)⟩
            case measure => simp [intOf]; omega
        · have t1 : ((l.size : Int) == 0) = false := by rw [beq_eq_false_iff_ne]; omega
          clear hl0 hc
          go_wp2_with fail
          refine (s_l1Number_small _ _ (by omega) (by omega)).mono ?_
          rintro e w7 ⟨rfl, hb7⟩
          rw [Int.toNat_natCast]
          go_wp2_with fail
          go_roundw
          case rel => exact ⟨_, j - 1, _, rfl, by go_num, by rw [ByteArray.size_append, HE.out]; omega, by omega, hr5.below hb7, hw5.trans (Only.of_below hb7)⟩
          case measure => simp [intOf]; omega
    · obtain rfl : j = 0 := by omega
      go_wp2_with fail
      refine (s_odd R _ n _ hrr (by omega) (by omega) (by omega)).mono ?_
      rintro e w2 ⟨b, p2, rfl, hp2, hr2, ho2⟩
      cases b with
      | false =>
        go_wp2_with fail
        go_ret
        exact ⟨l, p2, by omega, rfl, by omega, hr2, hoo.trans ho2⟩
      | true =>
        have hlen9 : l.size ≤ 9 := by omega
        go_wp2_with fail
        have hr2' := hr2.alloc (.cells #[.string ⟨#[]⟩, .string (⟨#[48]⟩ ++ l), .string ⟨#[97]⟩, .string (l ++ ⟨#[120]⟩), .string ⟨#[49, 50, 51, 52, 53, 54, 55, 56, 57, 48]⟩] 9)
        have hb2 := Blk.new w2 9 #[.string ⟨#[]⟩, .string (⟨#[48]⟩ ++ l), .string ⟨#[97]⟩, .string (l ++ ⟨#[120]⟩), .string ⟨#[49, 50, 51, 52, 53, 54, 55, 56, 57, 48]⟩]
        refine (s_pickI R _ 5 _ hr2' (by omega) (by omega) (by omega)).mono ?_
        rintro e w3 ⟨k4, hk4, rfl, hr3, ho3⟩
        have hne : w2.heap.size ≠ R := by have := hr2.lt; omega
        obtain ⟨tt, htt, hd⟩ := five_strs ⟨#[]⟩ (⟨#[48]⟩ ++ l) ⟨#[97]⟩ (l ++ ⟨#[120]⟩) ⟨#[49, 50, 51, 52, 53, 54, 55, 56, 57, 48]⟩ k4 (by decide) (by rw [ByteArray.size_append]; show 1 + l.size ≤ 11; omega) (by decide) (by rw [ByteArray.size_append]; show l.size + 1 ≤ 11; omega) (by decide) (by omega)
        have hcell := ((ho3.blk hb2 hne).cell k4).trans hd
        have hw3 : Only R w w3 := (hoo.trans ho2).trans ((World.grownBy_alloc w2 _ _).trans ho3)
        have hk40 : (0 : Int) ≤ (k4 : Int) := by omega
        clear hd hb2 hr2' ho3 hne
        go_wp2_with fail
        go_ret
        exact ⟨tt, _, htt, rfl, by omega, hr3, hw3⟩
end Go.Proofs.YtpnondeaiinccaaDoor
