/- The walk of laws.FnDigitAt: whatever is drawn, the law answers true; nothing that was there is changed. -/
import Derived.Test.YthddidjdgbdlbaaDoorDraw2
import Derived.Test.YthddidjdgbdlbaaDoorLaw13
import Derived.OpenShut
namespace Go.Proofs.YthddidjdgbdlbaaDoor.lawFnDigitAt
open Go.RowKit Go.Proofs.YthddidjdgbdlbaaDoor
set_option linter.unusedVariables false
set_option maxRecDepth 100000 in
set_option maxHeartbeats 3200000 in
theorem walk (a0 : Option Addr) (len0 cap0 : Nat) (z0 : List Int) (w : World) (w0 : IsBytes w a0 len0 cap0 z0) :
    Calls Tryd.prog 4 #[.slice a0 len0 cap0] w fun e w' => e = .returned (.bool true) ∧ Below w.heap.size w w' := by
  by_cases hl : 1048576 < len0
  · go_enter Tryd.func4, Tryd.ntmps4
    go_wp2_with fail
    go_ret
    exact ⟨rfl, Below.refl _ _⟩
  · go_enter Tryd.func4, Tryd.ntmps4
    go_wp2_with fail
    refine (s_drawDigitAt a0 len0 cap0 z0 _ w0 (by omega)).mono ?_
    rintro e w1 ⟨s, p, hs, hp0, hp1, rfl, hb1⟩
    have hss : s.size ≤ maxLen := by unfold maxLen; omega
    have hpb : p ≤ 9223372036854775807 := by omega
    have hda := digit_any s p
    go_wp2_with fail
    refine (i_digitAt s p _ hss hpb).mono ?_
    rintro e w2 ⟨rfl, rfl⟩
    go_wp2_with fail
    refine (s_digitAt s p _ hss hpb).mono ?_
    rintro e w3 ⟨rfl, rfl⟩
    by_cases hn : digitAtI s p < 0
    · have t1 : (digitAtI s p == -1) = true := by rw [beq_iff_eq]; omega
      go_wp2_with (go_at_call 18; refine (l_alive _).mono ?_; rintro e w' ⟨rfl, rfl⟩)
      go_ret
      exact ⟨rfl, hb1⟩
    · obtain ⟨hok, hp⟩ := digit_ge hn
      have HOK := Lib.hid hok
      have hz := numOkS_size hok
      clear hok hp
      go_wp2_with fail
      go_loopw [6, 7, 8] (fun x y i wr => ∃ (k : Nat) (a b : Int), k ≤ 9 ∧ i = .int .i64 k ∧ x = .int .i64 a ∧ y = .int .i64 b ∧ Go.RowKit.Hid (a = ((numTo (dAtS s) k : Nat) : Int) ∧ b = ((10 ^ k : Nat) : Int)) ∧ 0 ≤ a ∧ a ≤ 1000000000 ∧ 0 ≤ b ∧ b ≤ 1000000000 ∧ w1 = wr) (fun _ _ i _ => 9 - (intOf i).toNat)
      case atStart => exact ⟨0, 0, 1, Nat.zero_le _, rfl, rfl, rfl, Lib.hid ⟨rfl, rfl⟩, by omega, by omega, by omega, by omega, rfl⟩
      case round =>
        obtain ⟨k, a, b, hk, rfl, rfl, rfl, HE, a0', a1, b0, b1, rfl⟩ := hrel
        by_cases hlt : k < 9
        · have hd := dAtS_le HOK.out k
          obtain ⟨d, hdd⟩ : ∃ d, d = dAtS s k := ⟨_, rfl⟩
          have HD := Lib.hid hdd
          rw [← hdd] at hd
          have hlt' : (k : Int) < 9 := by omega
          have hm : 0 ≤ b * (d : Int) ∧ b * (d : Int) ≤ 9000000000 := by
            have e1 : 0 ≤ b * (d : Int) := Int.mul_nonneg b0 (by omega)
            have e2 : b * (d : Int) ≤ 1000000000 * (d : Int) := Int.mul_le_mul_of_nonneg_right b1 (by omega)
            omega
          have f1 : IntKind.i64.wrap (b * (d : Int)) = b * (d : Int) := IntWalk.i64_in _ (by omega)
          have f2 : IntKind.i64.wrap (a + b * (d : Int)) = a + b * (d : Int) := IntWalk.i64_in _ (by omega)
          have HN := Lib.hid (show a + b * (d : Int) = ((numTo (dAtS s) (k + 1) : Nat) : Int) ∧ b * 10 = ((10 ^ (k + 1) : Nat) : Int) by
            rw [HE.out.1, HE.out.2, HD.out, numTo, Nat.pow_succ, Int.natCast_add, Int.natCast_mul, Int.natCast_mul, Int.mul_comm ((10 ^ k : Nat) : Int)]
            exact ⟨rfl, rfl⟩)
          have hx : a + b * (d : Int) ≤ 1000000000 := by
            have h1 := numTo_lt (f := dAtS s) (n := k + 1) fun j _ => dAtS_le HOK.out j
            have h2 := pow_le9 (show k + 1 ≤ 9 by omega)
            have h3 := HN.out.1
            omega
          have hy : b * 10 ≤ 1000000000 := by
            have h2 := pow_le9 (show k + 1 ≤ 9 by omega)
            have h3 := HN.out.2
            omega
          have hk63 : (k : Int) ≤ 9223372036854775807 := by omega
          have hcall := fun W => i_digitAt s (k : Int) W hss hk63
          rw [digitAtI_ok HOK.out (by omega), Int.toNat_natCast, ← HD.out] at hcall
          have HC := Lib.hid hcall
          clear hcall hdd
          go_wp2_with fail
          refine (HC.out _).mono ?_
          rintro e w4 ⟨rfl, rfl⟩
          go_wp2_with fail
          go_roundw
          case rel => exact ⟨k + 1, a + b * (d : Int), b * 10, by omega, by go_num, rfl, rfl, HN, by omega, hx, by omega, hy, trivial⟩
          case measure => simp [intOf]; omega
        · obtain rfl : k = 9 := by omega
          have e1 := HE.out.1
          rw [valS_num_more s 9 hz.2] at e1
          have tf : (a == valI s) = true := by rw [beq_iff_eq, valI_ok HOK.out]; exact e1
          have hlt' : ¬ ((9 : Nat) : Int) < 9 := by omega
          clear e1
          go_wp2_with fail
          refine (i_valueOf s _ hss).mono ?_
          rintro e w5 ⟨rfl, b5⟩
          go_wp2_with fail
          go_ret
          exact ⟨rfl, hb1.trans (b5.mono hb1.size)⟩
end Go.Proofs.YthddidjdgbdlbaaDoor.lawFnDigitAt
