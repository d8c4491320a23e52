/- The walk of laws.FnExactTotalOf: the program's and the reference's answers are the same; nothing that was there is changed. -/
import Derived.Test.YthddidjdgbdlbaaDoorStrs
import Derived.OpenShut
namespace Go.Proofs.YthddidjdgbdlbaaDoor.lawFnExactTotalOf
open Go.RowKit Go.Proofs.YthddidjdgbdlbaaDoor
set_option linter.unusedVariables false
set_option maxRecDepth 100000 in
set_option maxHeartbeats 1600000 in
theorem walk (a0 : Option Addr) (len0 cap0 : Nat) (z0 : List ByteArray) (w : World) (w0 : IsStrs w a0 len0 cap0 z0) :
    Calls Tryd.prog 13 #[.slice a0 len0 cap0] w fun e w' => e = .returned (.bool true) ∧ Below w.heap.size w w' := by
  have HI := Lib.hid w0
  have HL := Lib.hid w0.1
  have HZ := Lib.hid w0.2.2.1
  clear w0
  go_enter Tryd.func13, Tryd.ntmps13
  go_wp2_with fail
  refine (l_szStrs a0 len0 cap0 z0 _ HI.out).mono ?_
  rintro e w1 ⟨n, rfl, n0, n1, hle, rfl⟩
  by_cases hn : n < 0
  · clear hle
    go_wp2_with fail
    go_ret
    exact ⟨rfl, Below.refl _ _⟩
  · have hl := hle (by omega)
    have hl2 : z0.length ≤ 1048576 := by rw [HL.out]; exact hl
    obtain ⟨o, ho⟩ : ∃ o, o = totalO z0 := ⟨_, rfl⟩
    have HO := Lib.hid ho
    have ts : ((strTxt o).toList == (strTxt o).toList) = true := by simp
    clear hle ho
    go_wp2_with fail
    refine (l_toStrs a0 len0 cap0 z0 _ HI.out hl).mono ?_
    rintro e w2 ⟨v, rfl, V2, b2⟩
    go_wp2_with fail
    refine (s_totalOf v z0 _ V2 hl2 HZ.out).mono ?_
    rintro e w3 ⟨he, b3⟩
    rw [← HO.out] at he
    subst he
    have hb3 := b2.trans (b3.mono b2.size)
    clear V2 b2 b3
    go_wp2_with fail
    refine (l_toStrs a0 len0 cap0 z0 _ (HI.out.below hb3) hl).mono ?_
    rintro e w4 ⟨x, rfl, X4, b4⟩
    have hb4 := hb3.trans (b4.mono hb3.size)
    go_wp2_with fail
    refine (i_totalOf x z0 _ X4 hl2 HZ.out).mono ?_
    rintro e w5 ⟨he, b5⟩
    rw [← HO.out] at he
    subst he
    have X5 := (X4.below b5).more b5.size
    have hb5 := hb4.trans (b5.mono hb4.size)
    clear X4 b4 b5 hb3 hb4
    go_wp2_with fail
    refine (l_toStrs a0 len0 cap0 z0 _ (HI.out.below hb5) hl).mono ?_
    rintro e w6 ⟨y, rfl, Y6, b6⟩
    have X6 := (X5.below b6).more b6.size
    have hb6 := hb5.trans (b6.mono hb5.size)
    go_wp2_with fail
    refine (l_eqStrs x y z0 _ X6 Y6 hl2).mono ?_
    rintro e w7 ⟨rfl, b7⟩
    have hb7 := hb6.trans (b7.mono hb6.size)
    clear X5 X6 Y6 b6 b7 hb5 hb6
    go_wp2_with fail
    go_ret
    exact ⟨rfl, hb7⟩
end Go.Proofs.YthddidjdgbdlbaaDoor.lawFnExactTotalOf
