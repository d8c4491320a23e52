/- Walk of NineOf of the reference. -/
import Derived.Test.YthddidjdgbdlbaaDoorSums
import Derived.Test.YthddidjdgbdlbaaDoorDec
namespace Go.Proofs.YthddidjdgbdlbaaDoor
open Go.RowKit

theorem isD_of_nat {d : Nat} (h : d ≤ 9) : isD (UInt8.ofNat (48 + d)) = true := by
  have e : (UInt8.ofNat (48 + d)).toNat = 48 + d := by simp; omega
  rw [isD_iff, e]; omega
theorem dv_of_nat {d : Nat} (h : d ≤ 9) : dv (UInt8.ofNat (48 + d)) = d := by
  have e : (UInt8.ofNat (48 + d)).toNat = 48 + d := by simp; omega
  unfold dv; rw [e]; omega
theorem dsumI_two {a : Int} (h0 : 10 ≤ a) (h9 : a ≤ 99) : dsumI ⟨(Lib.decDigits a.toNat).toArray⟩ = a / 10 + a % 10 := by
  have e := Lib.decDigits_two (i := a.toNat) (by omega) (by omega)
  rw [e]
  have d1 := isD_of_nat (d := a.toNat / 10) (by omega)
  have d2 := isD_of_nat (d := a.toNat % 10) (by omega)
  have v1 := dv_of_nat (d := a.toNat / 10) (by omega)
  have v2 := dv_of_nat (d := a.toNat % 10) (by omega)
  have n0 : ¬ UInt8.ofNat (48 + a.toNat / 10) = 48 := by
    intro h
    have : (UInt8.ofNat (48 + a.toNat / 10)).toNat = 48 := by rw [h]; rfl
    have e : (UInt8.ofNat (48 + a.toNat / 10)).toNat = 48 + a.toNat / 10 := by simp; omega
    omega
  generalize UInt8.ofNat (48 + a.toNat / 10) = x at *
  generalize UInt8.ofNat (48 + a.toNat % 10) = y at *
  have hn : numOkS ⟨[x, y].toArray⟩ = true := by
    simp [numOkS, numOk, d1, d2, n0]
  rw [dsumI_ok hn, ← dsumS_left]
  have e3 : sumTo (lAtS ⟨[x, y].toArray⟩) (ByteArray.size ⟨[x, y].toArray⟩) = dv x + dv y := by
    show sumTo (lAtS ⟨[x, y].toArray⟩) 2 = _
    simp [sumTo, lAtS]
  rw [e3, v1, v2]; omega
set_option maxHeartbeats 800000 in
theorem s_nineOf (s : ByteArray) (w : World) (hs : s.size ≤ maxLen) :
    Calls Tryd.prog 31 #[.string s] w fun e w' => e = .returned (.int .i64 (nineI s)) ∧ Below w.heap.size w w' := by
  by_cases hn : numOkS s = true
  · have H := Lib.hid (nineI_ok hn)
    have H1 := Lib.hid (dsumI_ok hn)
    have hl := dsumS_le hn
    have h0 : 0 ≤ dsumI s := by rw [dsumI_ok hn]; omega
    have h9 := dsumI_le s
    clear hn
    go_enter Tryd.func31, Tryd.ntmps31
    go_wp2_with (go_at_call 28; refine (s_digitSum _ _ hs).mono ?_; rintro e w' ⟨rfl, rfl⟩)
    go_loopw [3] (fun t wr => ∃ a : Int, t = .int .i64 a ∧ 0 ≤ a ∧ a ≤ 81 ∧ a % 9 = dsumI s % 9 ∧ Below w.heap.size w wr) (fun t _ => (intOf t).toNat)
    case atStart => exact ⟨_, rfl, h0, by omega, rfl, Below.refl _ _⟩
    case round =>
      obtain ⟨a, rfl, ha0, ha1, he, hb⟩ := hrel
      have HE := Lib.hid he
      clear he
      by_cases hgt : 9 < a
      · have D := Lib.hid (dsumI_two (a := a) (by omega) (by omega))
        have hsz : ByteArray.size ⟨(Lib.decDigits a.toNat).toArray⟩ ≤ maxLen := by
          have := dec_len _ a.toNat (Nat.le_refl _)
          have e : ByteArray.size ⟨(Lib.decDigits a.toNat).toArray⟩ = (Lib.decDigits a.toNat).length := by simp [ByteArray.size]
          rw [e]; unfold maxLen; omega
        go_wp2_with (first | (go_at_call 62; refine (s_l1Number _ _ _ (Nat.le_refl _) (by omega) (by omega)).mono ?_; rintro e w1 ⟨rfl, hb1⟩) | (go_at_call 28; refine (s_digitSum _ _ hsz).mono ?_; rintro e w' ⟨rfl, rfl⟩))
        go_roundw
        case rel => exact ⟨_, rfl, by rw [D.out]; omega, by rw [D.out]; omega, by rw [D.out, ← HE.out]; omega, hb.trans (hb1.mono hb.size)⟩
        case measure => simp [intOf]; rw [D.out]; omega
      · by_cases h9' : a = 9
        · have t1 : (a == 9) = true := by simp [h9']
          have HV := Lib.hid h9'
          clear h9'
          go_wp2
          go_ret
          exact ⟨ret_int (by rw [H.out]; have := HE.out; have := HV.out; have := H1.out; omega), hb⟩
        · have t1 : (a == 9) = false := by simp [h9']
          clear h9'
          have t2 : a ≤ 8 := by have : ¬ a = 9 := by simpa using t1
                                omega
          go_wp2
          go_ret
          exact ⟨ret_int (by rw [H.out]; have := HE.out; have := H1.out; omega), hb⟩
  · have H := Lib.hid (nineI_bad (ne_true hn))
    have H1 := Lib.hid (dsumI_bad (ne_true hn))
    have hlo : dsumI s ≤ 0 := by rw [H1.out]; omega
    have t1 : (dsumI s == 9) = false := by rw [H1.out]; rfl
    clear hn
    go_enter Tryd.func31, Tryd.ntmps31
    go_wp2_with (go_at_call 28; refine (s_digitSum _ _ hs).mono ?_; rintro e w' ⟨rfl, rfl⟩)
    go_loopw [3] (fun t wr => t = .int .i64 (dsumI s) ∧ w = wr) (fun _ _ => 0)
    case atStart => exact ⟨rfl, rfl⟩
    case round =>
      obtain ⟨rfl, rfl⟩ := hrel
      go_wp2
      go_ret
      exact ⟨ret_int (by rw [H.out, H1.out]), Below.refl _ _⟩
end Go.Proofs.YthddidjdgbdlbaaDoor
