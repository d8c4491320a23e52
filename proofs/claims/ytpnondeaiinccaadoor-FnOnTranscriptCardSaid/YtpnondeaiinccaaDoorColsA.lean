/- The drawing of a transcript of adding: some columns, whatever is written into them. -/
import Derived.Test.YtpnondeaiinccaaDoorCols0
import Derived.Laws.MakeOwn
namespace Go.Proofs.YtpnondeaiinccaaDoor
open Go.RowKit
set_option linter.unusedVariables false
set_option maxRecDepth 100000
theorem run_make_ten {P : Program} (t e : TypeId) (i : TypeInfo) (z : Value) (ht : P.underlying t = some (.slice e)) (hi : P.info? e = some i) (hz : i.zero = some z)
    (hbytes : i.bytes * 10 ≤ 281474976710656) (w : World) :
    (Instr.makeSlice t (.int .i64 10) (.int .i64 10)).run P w = .ok (.slice (some ⟨w.heap.size, 0, none⟩) 10 10) (w.alloc (.cells (madeCells z.cells (10 * i.size)) e)) := by
  have hr := run_make (P := P) w t e i z ht hi hz .i64 .i64 10 10 (by omega) (by omega) (by omega) (by omega)
  exact hr
def zeroCol : Col := ⟨0, 0, 0, 0, 0⟩
theorem ten_cells : madeCells (Value.cells (.agg #[.int .i64 0, .int .i64 0, .int .i64 0, .int .i64 0, .int .i64 0])) (10 * 5) = Array.replicate 50 (.int .i64 0) := by kernel_rfl
theorem ten_raw (w : World) : Raw (w.alloc (.cells (madeCells (Value.cells (.agg #[.int .i64 0, .int .i64 0, .int .i64 0, .int .i64 0, .int .i64 0])) (10 * 5)) 44)) w.heap.size w.heap.size (madeCells (Value.cells (.agg #[.int .i64 0, .int .i64 0, .int .i64 0, .int .i64 0, .int .i64 0])) (10 * 5)) (List.replicate 10 zeroCol) := by
  refine ⟨Nat.le_refl _, Blk.new _ _ _, by rw [size_madeCells]; simp, fun k c hk => arrCol_iff.2 fun i hi => ?_⟩
  have hkl : k < 10 := by have := (List.getElem?_eq_some_iff.1 hk).1; simpa using this
  have hc : c = zeroCol := List.eq_of_mem_replicate (List.mem_of_getElem? hk)
  subst hc
  rw [ten_cells, Array.getElem?_replicate, if_pos (by omega)]
  match i, hi with
  | 0, _ => rfl
  | 1, _ => rfl
  | 2, _ => rfl
  | 3, _ => rfl
  | 4, _ => rfl
theorem two_ints (k : Nat) (h : (k : Int) < 2) : ∃ d : Int, (#[Value.int .i64 (-1), .int .i64 10] : Array Value)[k]? = some (.int .i64 d) := by
  match k, h with
  | 0, _ => exact ⟨-1, rfl⟩
  | 1, _ => exact ⟨10, rfl⟩
set_option maxHeartbeats 6400000 in
theorem s_columns (R p : Nat) (n : Int) (w : World) (hr : Rdr w R p) (hn1 : 0 ≤ n) (hn2 : n ≤ 1000) (hp : p ≤ 30000) :
    Calls Tryd.prog 73 #[.pointer (some ⟨R, 0, none⟩), .int .i64 n] w (DrawnPost R w) := by
  have hRw := hr.lt
  obtain ⟨i0, hi0, hz0, hz1, hz2⟩ := info_parts info_col
  have hmk : ∀ W : World, (Instr.makeSlice 33 (.int .i64 10) (.int .i64 10)).run Tryd.prog W = .ok (.slice (some ⟨W.heap.size, 0, none⟩) 10 10) (W.alloc (.cells (madeCells (Value.cells (.agg #[.int .i64 0, .int .i64 0, .int .i64 0, .int .i64 0, .int .i64 0])) (10 * 5)) 44)) :=
    fun W => by
      have := run_make_ten 33 44 i0 _ Tryd.underlying33 hi0 hz0 (by rw [hz2]; omega) W
      rw [hz1] at this
      exact this
  clear hi0 hz0 hz1 hz2
  go_enter Tryd.func73, Tryd.ntmps73
  go_wp2_with fail
  refine (s_both R p 6 _ hr (by omega) (by omega) (by omega)).mono ?_
  rintro e w1 ⟨s, t, p1, hs, ht, rfl, hp1, hr1, ho1⟩
  have hss : s.size ≤ maxLen := by unfold maxLen; omega
  have hts : t.size ≤ maxLen := by unfold maxLen; omega
  go_wp2_with fail
  refine (s_addedOf s t _ hss hts).mono ?_
  rintro e w2 ⟨v, rfl, own2, b2⟩
  have hsmall := fun k c => added_small (s := s) (t := t) (k := k) (c := c)
  have hlen := addedL_len s t
  obtain ⟨cs, hcs⟩ : ∃ cs, cs = addedL s t := ⟨_, rfl⟩
  rw [← hcs] at own2 hsmall hlen
  clear hcs
  obtain ⟨A, cap, rfl, hnc⟩ := own_form own2
  have m2 := own2.mut cap
  have hr2 := hr1.below b2
  have ho2 := ho1.trans (Only.of_below b2)
  have hsz2 := ho1.size
  have HS := Lib.hid hsmall
  clear own2 b2 ho1 hr1 hsmall
  go_wp2_with fail
  refine (s_odd R p1 n _ hr2 hn1 (by omega) (by omega)).mono ?_
  rintro e w3 ⟨b, p2, rfl, hp2, hr3, ho3⟩
  have m3 := m2.only ho3 (by omega)
  have ho3' := ho2.trans ho3
  have M3 := Lib.hid (m3.mono hsz2)
  clear m2 m3 ho2 ho3 hr2
  cases b with
  | false =>
    go_wp2_with fail
    go_ret
    exact ⟨_, cs, rfl, by omega, M3.out, ho3'⟩
  | true =>
    by_cases hne : cs = []
    · have h0 : cs.length = 0 := by rw [hne]; rfl
      have t0 : ¬ (0 : Int) < (cs.length : Int) := by omega
      clear h0 hne
      go_wp2_with fail
      go_ret
      exact ⟨_, cs, rfl, by omega, M3.out, ho3'⟩
    · obtain ⟨g, arr, cap', hv, raw3⟩ := M3.out.raw hne
      injection hv with hA _ hcap
      subst hA hcap
      have hpos : 0 < cs.length := by
        rcases Nat.eq_zero_or_pos cs.length with h0 | h0
        · exact absurd (List.eq_nil_of_length_eq_zero h0) hne
        · exact h0
      have t0 : (0 : Int) < (cs.length : Int) := by omega
      clear hne M3
      go_wp2_with fail
      refine (s_pickI R p2 (cs.length : Int) _ hr3 (by omega) (by omega) (by omega)).mono ?_
      rintro e w4 ⟨k, hk, rfl, hr4, ho4⟩
      go_wp2_with fail
      refine (s_pickI R _ 6 _ hr4 (by omega) (by omega) (by omega)).mono ?_
      rintro e w5 ⟨m, hm, rfl, hr5, ho5⟩
      have raw5 := (raw3.only ho4 (by omega)).only ho5 (by omega)
      have HO := Lib.hid ((ho3'.trans ho4).trans ho5)
      have hkl : k < cs.length := by omega
      obtain ⟨c, hck⟩ : ∃ c, cs[k]? = some c := ⟨_, List.getElem?_eq_getElem hkl⟩
      obtain ⟨⟨a1, a2⟩, ⟨b1, b2⟩, ⟨c1, c2⟩, ⟨d1, d2⟩, ⟨e1, e2⟩⟩ := HS.out k c hck
      obtain ⟨x0, x1, x2, x3, x4⟩ := raw5.cells hck
      have f0 := raw5.frozen (k * 5)
      have f2 := raw5.frozen (k * 5 + 2)
      have f3 := raw5.frozen (k * 5 + 3)
      have f4 := raw5.frozen (k * 5 + 4)
      have hg5 := raw5.lt
      have hgw : w.heap.size ≤ g := raw5.1
      have HR := Lib.hid raw5
      have HK := Lib.hid hck
      have hw5 := HO.out.size
      clear raw3 raw5 ho3' ho4 ho5 hr3 hr4 hck HS hr
      rcases int_cases6 hm with h | h | h | h | h | h
      · rw [h]
        clear h hm hmk
        go_wp2_with fail
        go_ret
        exact drawn_of (HR.out.putD HK.out _) (by simp) hlen (HO.out.far hgw _)
      · rw [h]
        clear h hm hmk
        go_wp2_with fail
        go_ret
        exact drawn_of (HR.out.putO HK.out _) (by simp) hlen (HO.out.far hgw _)
      · rw [h]
        clear h hm hmk
        go_wp2_with fail
        go_ret
        exact drawn_of (HR.out.putI HK.out _) (by simp) hlen (HO.out.far hgw _)
      · rw [h]
        clear h hm hmk
        go_wp2_with fail
        have hr5' := hr5.alloc (.cells #[.int .i64 (-1), .int .i64 10] 3)
        have hb5 := Blk.new w5 3 #[.int .i64 (-1), .int .i64 10]
        refine (s_pickI R _ 2 _ hr5' (by omega) (by omega) (by omega)).mono ?_
        rintro e w6 ⟨q, hq, rfl, hr6, ho6⟩
        obtain ⟨d, hd⟩ := two_ints q hq
        have hcell := ((ho6.blk hb5 (by omega)).cell q).trans hd
        have raw6 := (HR.out.alloc (.cells #[.int .i64 (-1), .int .i64 10] 3)).only ho6 (by omega)
        obtain ⟨y0, _, _, _, _⟩ := raw6.cells HK.out
        have q0 := raw6.frozen (k * 5)
        have HR6 := Lib.hid raw6
        have HO6 := Lib.hid ((HO.out.alloc (.cells #[.int .i64 (-1), .int .i64 10] 3)).trans ho6)
        have hg6 := raw6.lt
        clear raw6 hb5 hr5' hr6 ho6 hd f0 f2 f3 f4 x0 x1 x2 x3 x4
        go_wp2_with fail
        go_ret
        exact drawn_of (HR6.out.putA HK.out _) (by simp) hlen (HO6.out.far hgw _)
      · rw [h]
        clear h hm hmk
        go_wp2_with fail
        go_ret
        exact drawn_of ((HR.out.putD HK.out _).putO (c := ⟨c.a, c.b, c.i, _, c.o⟩) (List.getElem?_set_self hkl) _) (by simp) hlen ((HO.out.far hgw _).far hgw _)
      · rw [h]
        clear h hm
        go_wp2_with fail
        go_ret
        exact ⟨_, List.replicate 10 zeroCol, rfl, by simp, ((ten_raw w5).mut 10).mono hw5, HO.out.alloc _⟩
end Go.Proofs.YtpnondeaiinccaaDoor
