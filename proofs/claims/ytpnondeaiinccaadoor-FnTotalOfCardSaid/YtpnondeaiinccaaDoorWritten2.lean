/- The reference's side of WrittenOf and RowWritten. -/
import Derived.Test.YtpnondeaiinccaaDoorWritten
namespace Go.Proofs.YtpnondeaiinccaaDoor
open Go.RowKit
set_option linter.unusedVariables false
set_option maxRecDepth 100000
theorem trimZ_len (l : List UInt8) : (trimZ l).length ≤ l.length + 1 := by
  unfold trimZ
  have h := List.Sublist.length_le (List.dropWhile_sublist (l := l) (· == (48 : UInt8)))
  simp only
  split
  · simp
  · omega
theorem trimS_size (s : ByteArray) : (trimS s).size ≤ s.size := by
  unfold trimS
  split
  · exact Nat.le_refl _
  · rename_i h
    show (trimZ s.data.toList).toArray.size ≤ _
    rw [List.size_toArray]
    unfold trimZ
    have h2 := List.Sublist.length_le (List.dropWhile_sublist (l := s.data.toList) (· == (48 : UInt8)))
    rw [size_toList] at h2
    simp only
    split
    · simp; omega
    · exact h2
set_option maxHeartbeats 3200000 in
theorem s_writtenOf (v : Value) (cs : List Col) (w : World) (hv : Cols w w.heap.size v cs) (hl : cs.length ≤ 1048576) :
    Calls Tryd.prog 52 #[v] w fun e w' => e = strOk (writtenO cs) ∧ Below w.heap.size w w' := by
  obtain ⟨A, cap, rfl, hc⟩ := id hv
  by_cases hne : cs = []
  · subst hne
    go_enter Tryd.func52, Tryd.ntmps52
    go_wp2
    go_ret2
    exact ⟨rfl, Below.refl _ _⟩
  · have hpos : 0 < cs.length := by
      rcases Nat.eq_zero_or_pos cs.length with h | h
      · exact absurd (List.eq_nil_of_length_eq_zero h) hne
      · exact h
    have t0 : ((cs.length : Int) == 0) = false := by simp; omega
    by_cases hw : wAdd cs = -1
    · obtain ⟨hd, h9⟩ := wAdd_dig hne hw
      have HO := Lib.hid (writtenO_ok hne hw)
      have t1 : (wAdd cs != -1) = false := by simp [hw]
      have HTR := Lib.hid (trimS_with hd hpos)
      have HD := Lib.hid hd
      have HV := Lib.hid hv
      obtain ⟨g, rfl, hg, hcell⟩ := hc hne
      have HN := Lib.hid hcell
      obtain ⟨m, hm⟩ : ∃ m, m = cs.length - 1 := ⟨_, rfl⟩
      obtain ⟨cl, hcm⟩ : ∃ c, cs[m]? = some c := ⟨_, List.getElem?_eq_getElem (by omega)⟩
      have hlo := lastO_get (x := 0) (by rw [← hm]; exact hcm)
      have HLO := Lib.hid hlo
      have hol : 0 ≤ cl.o ∧ cl.o ≤ 9 := by rw [← hlo]; exact hd _ (by simp [withL])
      have hdc : ∀ c ∈ cs, 0 ≤ c.d ∧ c.d ≤ 9 := fun c hcc => hd c.d (by unfold withL revN; simp; exact .inr ⟨c, hcc, rfl⟩)
      have HDC := Lib.hid hdc
      have HE0 := Lib.hid (dec_one hol)
      have e1 : IntKind.i64.wrap ((cs.length : Int) - 1) = (m : Int) := by rw [IntWalk.i64_in _ (by omega)]; omega
      have e2 : (cs.length : Int) - 1 = (m : Int) := by omega
      have HE2 := Lib.hid e2
      have hmc : m < cs.length := by omega
      have HCM := Lib.hid hcm
      have HX : (⟨(digB (withL cs)).toArray⟩ : ByteArray) = headT cl.o (cs.drop 0) := by rw [digB_with, hlo]; rfl
      have HXX := Lib.hid HX
      clear hw hc hd hv hne hcell hcm hlo hm HX hdc e2
      go_enter Tryd.func52, Tryd.ntmps52
      go_wp2_with (go_at_call 88; refine (s_wrongColumn _ cs _ HV.out hl).mono ?_; rintro e w1 ⟨rfl, hb1⟩; obtain ⟨_, _, _, _, x4⟩ := (HN.out m cl HCM.out).below hg hb1)
      refine (s_l1Number_small _ _ hol.1 hol.2).mono ?_
      rintro e w2 ⟨rfl, hb2⟩
      have hb12 := hb1.trans (hb2.mono hb1.size)
      clear hb2 x4
      go_wp2_with fail
      go_loopw [4, 5] (fun t i wr => ∃ k : Nat, k ≤ cs.length ∧ i = .int .i64 ((k : Int) - 1) ∧ t = .string (headT cl.o (cs.drop k)) ∧ Below w.heap.size w wr) (fun _ i _ => (intOf i + 1).toNat)
      case atStart => exact ⟨cs.length, Nat.le_refl _, by have := HE2.out; rw [this], by rw [HE0.out, List.drop_length]; rfl, hb12⟩
      case round =>
        obtain ⟨k, hk, rfl, rfl, hb⟩ := hrel
        cases k with
        | zero =>
          have hsz : (headT cl.o (cs.drop 0)).size ≤ maxLen := by rw [headT_size]; simp; unfold maxLen; omega
          have hsz2 : (decS (val (digB (withL cs)))).size ≤ maxLen := by
            rw [← HTR.out, HXX.out]
            exact Nat.le_trans (trimS_size _) hsz
          have e0 : ((0 : Nat) : Int) - 1 = -1 := rfl
          rw [e0]
          have T := Lib.hid (show trimS (headT cl.o (cs.drop 0)) = decS (val (digB (withL cs))) by rw [← HXX.out]; exact HTR.out)
          clear e0
          by_cases hV : val (digB (withL cs)) < 1000000000
          · have H := Lib.hid (strOk_some (HO.out.trans (plainO_with_ok hV)) rfl)
            have t2 : numOkS (decS (val (digB (withL cs)))) = true := by rw [decS_ok]; simp [hV]
            go_wp2_with (first | (go_at_call 66; refine (s_trim _ _ hsz).mono ?_; rintro e w3 ⟨rfl, rfl⟩; rw [T.out]) | (go_at_call 77; refine (s_numeralOk _ _ hsz2).mono ?_; rintro e w4 ⟨rfl, rfl⟩))
            go_ret2
            exact ⟨H.out, hb⟩
          · have H := Lib.hid (strOk_none (HO.out.trans (plainO_big hV)))
            have t2 : numOkS (decS (val (digB (withL cs)))) = false := by rw [decS_ok]; simp; omega
            go_wp2_with (first | (go_at_call 66; refine (s_trim _ _ hsz).mono ?_; rintro e w3 ⟨rfl, rfl⟩; rw [T.out]) | (go_at_call 77; refine (s_numeralOk _ _ hsz2).mono ?_; rintro e w4 ⟨rfl, rfl⟩))
            go_ret2
            exact ⟨H.out, hb⟩
        | succ q =>
          obtain ⟨c, hck⟩ : ∃ c, cs[q]? = some c := ⟨_, List.getElem?_eq_getElem hk⟩
          obtain ⟨h0, h1, h2, h3, h4⟩ := (HN.out q c hck).below hg hb
          have hd9 := HDC.out c (List.mem_of_getElem? hck)
          have HT := Lib.hid (headT_snoc (o := cl.o) hck)
          have HE := Lib.hid (dec_one hd9)
          have hsz : (headT cl.o (cs.drop (q + 1))).size + 1 ≤ 9223372036854775807 := by rw [headT_size, List.length_drop]; omega
          have hsz1 : ByteArray.size ⟨(Lib.decDigits c.d.toNat).toArray⟩ = 1 := by rw [HE.out]; rfl
          have em : ((q + 1 : Nat) : Int) - 1 = (q : Int) := by omega
          have hqc : q < cs.length := by omega
          rw [em]
          clear hck em e1
          go_wp2_with (go_at_call 65; refine (s_l1Number_small _ _ hd9.1 hd9.2).mono ?_; rintro e w3 ⟨rfl, hb3⟩)
          go_roundw
          case rel => exact ⟨q, by omega, by go_num, by rw [HE.out, HT.out], hb.trans (hb3.mono hb.size)⟩
          case measure => simp [intOf]
    · have H := Lib.hid (strOk_none (writtenO_no hw))
      have t1 : (wAdd cs != -1) = true := by simp [hw]
      clear hw
      go_enter Tryd.func52, Tryd.ntmps52
      go_wp2_with (go_at_call 88; refine (s_wrongColumn _ cs _ hv hl).mono ?_; rintro e w1 ⟨rfl, hb1⟩)
      go_ret2
      exact ⟨H.out, hb1⟩
end Go.Proofs.YtpnondeaiinccaaDoor
