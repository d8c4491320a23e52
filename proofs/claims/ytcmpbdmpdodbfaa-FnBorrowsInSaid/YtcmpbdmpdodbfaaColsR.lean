/- The drawing of a transcript of a row: some columns, whatever is written into them. -/
import Derived.Test.YtcmpbdmpdodbfaaCols0
namespace Go.Proofs.Ytcmpbdmpdodbfaa
open Go.RowKit
set_option linter.unusedVariables false
set_option maxRecDepth 100000
set_option maxHeartbeats 6400000 in
theorem s_rowDrawn (R p : Nat) (n : Int) (w : World) (hr : Rdr w R p) (hn1 : 0 ≤ n) (hn2 : n ≤ 1000) (hp : p ≤ 30000) :
    Calls Try.prog 25 #[.pointer (some ⟨R, 0, none⟩), .int .i64 n] w (DrawnPost R w) := by
  have hRw := hr.lt
  go_enter Try.func25, Try.ntmps25
  go_wp2_with fail
  refine (s_numeral R p 6 16 _ hr (by omega) (by omega) (by omega) (by omega) (by omega)).mono ?_
  rintro e w0 ⟨s, p0, hs, rfl, hp0, hr0, ho0⟩
  have hss : s.size ≤ maxLen := by unfold maxLen; omega
  go_wp2_with fail
  refine (s_pickI R p0 10 _ hr0 (by omega) (by omega) (by omega)).mono ?_
  rintro e w1 ⟨d, hd, rfl, hr1, ho1'⟩
  have ho1 := ho0.trans ho1'
  have hdd : -9223372036854775808 ≤ (d : Int) ∧ (d : Int) ≤ 9223372036854775807 := by omega
  go_wp2_with fail
  refine (s_rowOf s (d : Int) _ hss hdd).mono ?_
  rintro e w2 ⟨v, rfl, own2, b2⟩
  have hsmall := fun k c => row_small (s := s) (d := (d : Int)) (k := k) (c := c)
  have hlen := rowL_len s (d : Int)
  obtain ⟨cs, hcs⟩ : ∃ cs, cs = rowL s (d : Int) := ⟨_, rfl⟩
  rw [← hcs] at own2 hsmall hlen
  clear hcs hdd
  obtain ⟨A, cap, rfl, hnc⟩ := own_form own2
  have m2 := own2.mut cap
  have hr2 := hr1.below b2
  have ho2 := ho1.trans (Only.of_below b2)
  have hsz2 := ho1.size
  have HS := Lib.hid hsmall
  clear own2 b2 ho1 ho0 ho1' hr1 hr0 hsmall
  go_wp2_with fail
  refine (s_odd R (p0 + 1) n _ hr2 hn1 (by omega) (by omega)).mono ?_
  rintro e w3 ⟨b, p2, rfl, hp2, hr3, ho3⟩
  have m3 := m2.only ho3 (by omega)
  have ho3' := ho2.trans ho3
  have M3 := Lib.hid (m3.mono hsz2)
  clear m2 m3 ho2 ho3 hr2
  cases b with
  | false =>
    go_wp2_with fail
    go_ret
    exact ⟨_, cs, rfl, by omega, M3.out, ho3'⟩
  | true =>
    by_cases hne : cs = []
    · have h0 : cs.length = 0 := by rw [hne]; rfl
      have t0 : ¬ (0 : Int) < (cs.length : Int) := by omega
      clear h0 hne
      go_wp2_with fail
      go_ret
      exact ⟨_, cs, rfl, by omega, M3.out, ho3'⟩
    · obtain ⟨g, arr, cap', hv, raw3⟩ := M3.out.raw hne
      injection hv with hA _ hcap
      subst hA hcap
      have hpos : 0 < cs.length := by
        rcases Nat.eq_zero_or_pos cs.length with h0 | h0
        · exact absurd (List.eq_nil_of_length_eq_zero h0) hne
        · exact h0
      have t0 : (0 : Int) < (cs.length : Int) := by omega
      clear hne M3
      go_wp2_with fail
      refine (s_pickI R p2 (cs.length : Int) _ hr3 (by omega) (by omega) (by omega)).mono ?_
      rintro e w4 ⟨k, hk, rfl, hr4, ho4⟩
      go_wp2_with fail
      refine (s_pickI R _ 5 _ hr4 (by omega) (by omega) (by omega)).mono ?_
      rintro e w5 ⟨m, hm, rfl, hr5, ho5⟩
      have raw5 := (raw3.only ho4 (by omega)).only ho5 (by omega)
      have HO := Lib.hid ((ho3'.trans ho4).trans ho5)
      have hkl : k < cs.length := by omega
      obtain ⟨c, hck⟩ : ∃ c, cs[k]? = some c := ⟨_, List.getElem?_eq_getElem hkl⟩
      obtain ⟨⟨a1, a2⟩, ⟨b1, b2⟩, ⟨c1, c2⟩, ⟨d1, d2⟩, ⟨e1, e2⟩⟩ := HS.out k c hck
      obtain ⟨x0, x1, x2, x3, x4⟩ := raw5.cells hck
      have f1 := raw5.frozen (k * 5 + 1)
      have f3 := raw5.frozen (k * 5 + 3)
      have f4 := raw5.frozen (k * 5 + 4)
      have hg5 := raw5.lt
      have hgw : w.heap.size ≤ g := raw5.1
      have HR := Lib.hid raw5
      have HK := Lib.hid hck
      have hw5 := HO.out.size
      clear raw3 raw5 ho3' ho4 ho5 hr3 hr4 hck HS hr
      rcases int_cases5 hm with h | h | h | h | h
      · rw [h]
        clear h hm
        go_wp2_with fail
        go_ret
        exact drawn_of (HR.out.putD HK.out _) (by simp) hlen (HO.out.far hgw _)
      · rw [h]
        clear h hm
        go_wp2_with fail
        go_ret
        exact drawn_of (HR.out.putO HK.out _) (by simp) hlen (HO.out.far hgw _)
      · rw [h]
        clear h hm
        go_wp2_with fail
        go_ret
        exact drawn_of (HR.out.putB HK.out _) (by simp) hlen (HO.out.far hgw _)
      · rw [h]
        clear h hm
        go_wp2_with fail
        go_ret
        exact drawn_of ((HR.out.putD HK.out _).putO (c := ⟨c.a, c.b, c.i, _, c.o⟩) (List.getElem?_set_self hkl) _) (by simp) hlen ((HO.out.far hgw _).far hgw _)
      · rw [h]
        clear h hm
        go_wp2_with fail
        go_ret
        exact ⟨_, [], rfl, by simp, ⟨_, _, rfl, fun h => absurd rfl h⟩, HO.out.alloc _⟩
end Go.Proofs.Ytcmpbdmpdodbfaa
