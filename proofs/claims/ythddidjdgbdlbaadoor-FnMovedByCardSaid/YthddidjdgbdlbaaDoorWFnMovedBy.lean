/- The walk of laws.FnMovedBy: whatever is drawn, the law answers true; nothing that was there is changed. -/
import Derived.Test.YthddidjdgbdlbaaDoorDraw2
import Derived.Test.YthddidjdgbdlbaaDoorLaw13
import Derived.OpenShut
namespace Go.Proofs.YthddidjdgbdlbaaDoor.lawFnMovedBy
open Go.RowKit Go.Proofs.YthddidjdgbdlbaaDoor
set_option linter.unusedVariables false
set_option maxRecDepth 100000 in
set_option maxHeartbeats 3200000 in
theorem walk (a0 : Option Addr) (len0 cap0 : Nat) (z0 : List Int) (w : World) (w0 : IsBytes w a0 len0 cap0 z0) :
    Calls Tryd.prog 14 #[.slice a0 len0 cap0] w fun e w' => e = .returned (.bool true) ∧ Below w.heap.size w w' := by
  by_cases hl : 1048576 < len0
  · go_enter Tryd.func14, Tryd.ntmps14
    go_wp2_with fail
    go_ret
    exact ⟨rfl, Below.refl _ _⟩
  · go_enter Tryd.func14, Tryd.ntmps14
    go_wp2_with fail
    refine (s_drawMovedBy a0 len0 cap0 z0 _ w0 (by omega)).mono ?_
    rintro e w1 ⟨s, p, hs, hp0, hp1, rfl, hb1⟩
    have hss : s.size ≤ maxLen := by unfold maxLen; omega
    have h1 := fun W => i_movedBy s p W hss
    have h2 := fun W => s_movedBy s p W hss
    cases ho : movedO s p with
    | none =>
      rw [ho] at h1 h2
      have H1 := Lib.hid h1
      have H2 := Lib.hid h2
      clear h1 h2
      go_wp2_with fail
      refine (H1.out _ (by omega)).mono ?_
      rintro e w2 ⟨he, hb2⟩
      obtain rfl : e = .returned (.tuple #[.string ⟨#[]⟩, .bool false]) := he
      have hb2' := hb1.trans (hb2.mono hb1.size)
      go_wp2_with fail
      refine (H2.out _ (by omega)).mono ?_
      rintro e w3 ⟨he, hb3⟩
      obtain rfl : e = .returned (.tuple #[.string ⟨#[]⟩, .bool false]) := he
      have hb3' := hb2'.trans (hb3.mono hb2'.size)
      go_wp2_with (go_at_call 18; refine (l_alive _).mono ?_; rintro e w' ⟨rfl, rfl⟩)
      go_ret
      exact ⟨rfl, hb3'⟩
    | some x =>
      rw [ho] at h1 h2
      obtain ⟨n1, hp, nx, hv⟩ := moved_facts ho
      have hstep := fun k hk => moved_step ho (k := k) hk
      have hxs : x.size ≤ maxLen := by have := numOkS_size nx; unfold maxLen; omega
      have ts : (x.toList == x.toList) = true := by simp
      have HV := Lib.hid hv
      have HVS := Lib.hid (valI_ok n1)
      have HVX := Lib.hid (valI_ok nx)
      have HST := Lib.hid hstep
      have v0 := val_any3 n1
      have v1 := (val_any2 s).2
      have H1 := Lib.hid h1
      have H2 := Lib.hid h2
      clear h1 h2 n1 nx hv ho hstep
      go_wp2_with fail
      refine (H1.out _ (by omega)).mono ?_
      rintro e w2 ⟨he, hb2⟩
      obtain rfl : e = .returned (.tuple #[.string x, .bool true]) := he
      have hb2' := hb1.trans (hb2.mono hb1.size)
      go_wp2_with fail
      refine (H2.out _ (by omega)).mono ?_
      rintro e w3 ⟨he, hb3⟩
      obtain rfl : e = .returned (.tuple #[.string x, .bool true]) := he
      have hb3' := hb2'.trans (hb3.mono hb2'.size)
      go_wp2_with fail
      refine (i_valueOf s _ hss).mono ?_
      rintro e w4 ⟨rfl, hb4⟩
      have hb4' := hb3'.trans (hb4.mono hb3'.size)
      clear hb2 hb3 hb4 hb2' hb3'
      go_wp2_with fail
      go_loopw [9, 10] (fun x i wr => ∃ (k : Nat) (a : Int), (k : Int) ≤ p ∧ i = .int .i64 k ∧ x = .int .i64 a ∧ Go.RowKit.Hid (a = ((valS s * 10 ^ k : Nat) : Int)) ∧ 0 ≤ a ∧ a ≤ 1000000000 ∧ w4 = wr) (fun _ i _ => p.toNat - (intOf i).toNat)
      case atStart => exact ⟨0, valI s, by omega, rfl, rfl, Lib.hid (by rw [HVS.out, Nat.pow_zero, Nat.mul_one]), by omega, by omega, rfl⟩
      case round =>
        obtain ⟨k, a, hk, rfl, rfl, HE, a0', a1, rfl⟩ := hrel
        by_cases hlt : (k : Int) < p
        · have HN := Lib.hid (show 10 * a = ((valS s * 10 ^ (k + 1) : Nat) : Int) by
            rw [HE.out, Nat.pow_succ, ← Nat.mul_assoc]; omega)
          have hx : 10 * a ≤ 1000000000 := by
            have h1 := HST.out (k + 1) (by omega)
            have h3 := HN.out
            omega
          go_wp2_with fail
          go_roundw
          case rel => exact ⟨k + 1, 10 * a, by omega, by go_num, rfl, HN, by omega, hx, trivial⟩
          case measure => simp [intOf]; omega
        · have hkp : p.toNat = k := by omega
          have tf : (valI x == a) = true := by rw [beq_iff_eq, HVX.out, HE.out, HV.out, hkp]
          clear hkp
          go_wp2_with fail
          refine (i_valueOf x _ hxs).mono ?_
          rintro e w5 ⟨rfl, b5⟩
          go_wp2_with fail
          go_ret
          exact ⟨rfl, hb4'.trans (b5.mono hb4'.size)⟩
end Go.Proofs.YthddidjdgbdlbaaDoor.lawFnMovedBy
