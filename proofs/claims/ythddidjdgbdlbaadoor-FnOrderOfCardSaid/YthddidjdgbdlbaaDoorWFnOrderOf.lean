/- The walk of laws.FnOrderOf: whatever is drawn, the law answers true; nothing that was there is changed. -/
import Derived.Test.YthddidjdgbdlbaaDoorBoth
import Derived.Test.YthddidjdgbdlbaaDoorLaw13
import Derived.Test.YthddidjdgbdlbaaDoorOrder2
import Derived.OpenShut
namespace Go.Proofs.YthddidjdgbdlbaaDoor.lawFnOrderOf
open Go.RowKit Go.Proofs.YthddidjdgbdlbaaDoor
set_option linter.unusedVariables false
theorem below_drew2 {B : Nat} {a w : World} (h : Below B a w) (n : Nat) : Below B a (w.drewN n) := ⟨h.os, h.tape, h.output, h.size, h.block⟩
set_option maxRecDepth 100000 in
set_option maxHeartbeats 3200000 in
theorem walk (a0 : Option Addr) (len0 cap0 : Nat) (z0 : List Int) (w : World) (w0 : IsBytes w a0 len0 cap0 z0) :
    Calls Tryd.prog 8 #[.slice a0 len0 cap0] w fun e w' => e = .returned (.bool true) ∧ Below w.heap.size w w' := by
  by_cases hl : 1048576 < len0
  · go_enter Tryd.func8, Tryd.ntmps8
    go_wp2_with fail
    go_ret
    exact ⟨rfl, Below.refl _ _⟩
  · go_enter Tryd.func8, Tryd.ntmps8
    go_wp2_with fail
    refine (s_drawOrderOf a0 len0 cap0 z0 _ w0 (by omega)).mono ?_
    rintro e w1 ⟨s, t, hs, ht, rfl, hb1⟩
    have hss : s.size ≤ maxLen := by unfold maxLen; omega
    have hts : t.size ≤ maxLen := by unfold maxLen; omega
    by_cases h2 : orderI s t = -2
    · have h1 := fun W => i_orderOf s t W hss hts
      have h3 := fun W => s_orderOf s t W hss hts
      rw [h2] at h1 h3
      have H1 := Lib.hid h1
      have H3 := Lib.hid h3
      clear h1 h2 h3
      go_wp2_with fail
      refine (H1.out _).mono ?_
      rintro e w2 ⟨rfl, rfl⟩
      go_wp2_with fail
      refine (H3.out _).mono ?_
      rintro e w3 ⟨rfl, n3, rfl⟩
      go_wp2_with (go_at_call 18; refine (l_alive _).mono ?_; rintro e w' ⟨rfl, rfl⟩)
      go_ret
      exact ⟨rfl, below_drew2 hb1 _⟩
    · have hf := order_facts h2
      obtain ⟨hs1, ht1⟩ := orderI_ok h2
      have vs := valI_ok hs1
      have vt := valI_ok ht1
      have b1 := val_any2 s
      have b2 := val_any2 t
      have hc : orderI s t = -1 ∨ orderI s t = 0 ∨ orderI s t = 1 := by omega
      clear h2
      rcases hc with hc | hc | hc
      · have h1 := fun W => i_orderOf s t W hss hts
        have h2 := fun W => s_orderOf s t W hss hts
        have h3 := fun W => i_orderOf t s W hts hss
        rw [hc] at h1 h2
        rw [(show orderI t s = 1 by omega)] at h3
        have H1 := Lib.hid h1
        have H2 := Lib.hid h2
        have H3 := Lib.hid h3
        have hlt : valI s < valI t := by omega
        have TF := Lib.hid (show (!decide (valI t < valI s)) = true by simp; omega)
        clear h1 h2 h3 hf hc hs1 ht1 vs vt
        go_wp2_with fail
        refine (H1.out _).mono ?_
        rintro e w2 ⟨rfl, rfl⟩
        go_wp2_with fail
        refine (H2.out _).mono ?_
        rintro e w3 ⟨rfl, n3, rfl⟩
        have hb3 := below_drew2 hb1 n3
        go_wp2_with fail
        refine (i_valueOf s _ hss).mono ?_
        rintro e w4 ⟨rfl, b4⟩
        have hb4 := hb3.trans (b4.mono hb3.size)
        go_wp2_with fail
        refine (i_valueOf t _ hts).mono ?_
        rintro e w5 ⟨rfl, b5⟩
        have hb5 := hb4.trans (b5.mono hb4.size)
        go_wp2_with fail
        refine (H3.out _).mono ?_
        rintro e w6 ⟨rfl, rfl⟩
        go_wp2_with fail
        go_ret
        exact ⟨ret_bool TF.out, hb5⟩
      · have h1 := fun W => i_orderOf s t W hss hts
        have h2 := fun W => s_orderOf s t W hss hts
        have h3 := fun W => i_orderOf t s W hts hss
        rw [hc] at h1 h2
        rw [(show orderI t s = 0 by omega)] at h3
        have H1 := Lib.hid h1
        have H2 := Lib.hid h2
        have H3 := Lib.hid h3
        have hle1 : valI s ≤ valI t := by omega
        have hle2 : valI t ≤ valI s := by omega
        have TF := Lib.hid (show (!decide (valI s < valI t) && !decide (valI t < valI s)) = true by simp; omega)
        clear h1 h2 h3 hf hc hs1 ht1 vs vt
        go_wp2_with fail
        refine (H1.out _).mono ?_
        rintro e w2 ⟨rfl, rfl⟩
        go_wp2_with fail
        refine (H2.out _).mono ?_
        rintro e w3 ⟨rfl, n3, rfl⟩
        have hb3 := below_drew2 hb1 n3
        go_wp2_with fail
        refine (i_valueOf s _ hss).mono ?_
        rintro e w4 ⟨rfl, b4⟩
        have hb4 := hb3.trans (b4.mono hb3.size)
        go_wp2_with fail
        refine (i_valueOf t _ hts).mono ?_
        rintro e w5 ⟨rfl, b5⟩
        have hb5 := hb4.trans (b5.mono hb4.size)
        go_wp2_with fail
        refine (H3.out _).mono ?_
        rintro e w6 ⟨rfl, rfl⟩
        go_wp2_with fail
        go_ret
        exact ⟨ret_bool TF.out, hb5⟩
      · have h1 := fun W => i_orderOf s t W hss hts
        have h2 := fun W => s_orderOf s t W hss hts
        have h3 := fun W => i_orderOf t s W hts hss
        rw [hc] at h1 h2
        rw [(show orderI t s = -1 by omega)] at h3
        have H1 := Lib.hid h1
        have H2 := Lib.hid h2
        have H3 := Lib.hid h3
        have hlt : valI t < valI s := by omega
        have TF := Lib.hid (show (!decide (valI s < valI t)) = true by simp; omega)
        clear h1 h2 h3 hf hc hs1 ht1 vs vt
        go_wp2_with fail
        refine (H1.out _).mono ?_
        rintro e w2 ⟨rfl, rfl⟩
        go_wp2_with fail
        refine (H2.out _).mono ?_
        rintro e w3 ⟨rfl, n3, rfl⟩
        have hb3 := below_drew2 hb1 n3
        go_wp2_with fail
        refine (i_valueOf s _ hss).mono ?_
        rintro e w4 ⟨rfl, b4⟩
        have hb4 := hb3.trans (b4.mono hb3.size)
        go_wp2_with fail
        refine (i_valueOf t _ hts).mono ?_
        rintro e w5 ⟨rfl, b5⟩
        have hb5 := hb4.trans (b5.mono hb4.size)
        go_wp2_with fail
        refine (H3.out _).mono ?_
        rintro e w6 ⟨rfl, rfl⟩
        go_wp2_with fail
        go_ret
        exact ⟨ret_bool TF.out, hb5⟩
end Go.Proofs.YthddidjdgbdlbaaDoor.lawFnOrderOf
