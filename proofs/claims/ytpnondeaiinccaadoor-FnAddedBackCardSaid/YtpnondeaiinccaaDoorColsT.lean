/- The drawing of a transcript of taking away: some columns, whatever is written into them. -/
import Derived.Test.YtpnondeaiinccaaDoorCols0
import Derived.Deep.AppendLies
import Derived.RegionTactic
import Derived.Deep.RegionWith
import Derived.Deep.RegionLaw
import Derived.Deep.RegionHeld3
import Derived.WalkLawsBesides
namespace Go.Proofs.YtpnondeaiinccaaDoor
open Go.RowKit
set_option linter.unusedVariables false
set_option maxRecDepth 100000
theorem own_capb {w : World} {base : Nat} {v : Value} {cs : List Col} (h : OwnCols w base v cs) : ∃ A c, v = .slice A cs.length c ∧ cs.length ≤ c ∧ c ≤ 9223372036854775807 := by
  rcases h.2 with ⟨rfl, hn⟩ | ⟨g, cap, cur, rfl, hg, hh, hle, hm, _⟩
  · exact ⟨none, 0, by rw [hn], by omega, by omega⟩
  · exact ⟨_, cap, rfl, hle, by unfold maxLen at hm; omega⟩
theorem OwnCols.only {w w' : World} {base R : Nat} {v : Value} {cs : List Col} (h : OwnCols w base v cs) (ho : Only R w w') (hR : R < base) : OwnCols w' base v cs := by
  refine ⟨h.1, ?_⟩
  rcases h.2 with h0 | ⟨g, cap, cur, hv, hg, hh, hr⟩
  · exact .inl h0
  · exact .inr ⟨g, cap, cur, hv, hg, (ho.block g (lt_of_block hh) (fun e => by injection e; omega)).trans hh, hr⟩
theorem own_more {w : World} {base : Nat} {v : Value} {cs : List Col} {c : Col} (h : w.ownsRow base 44 5 v (cs.length + 1) (flat cs ++ c.cells)) : OwnCols w base v (cs ++ [c]) := by
  unfold OwnCols
  rw [flat_append, flat_one, List.length_append]
  exact h
theorem own_drawn {R : Nat} {w w' : World} {base : Nat} {v : Value} {cs : List Col} (h : OwnCols w' base v cs) (hb : w.heap.size ≤ base) (hl : cs.length ≤ 10) (ho : Only R w w') : DrawnPost R w (.returned v) w' := by
  obtain ⟨A, cap, rfl, _⟩ := own_form h
  exact ⟨_, cs, rfl, hl, (h.mut cap).mono hb, ho⟩
theorem Only.grown {R : Nat} {a b c : World} {row : Option Nat} (h : Only R a b) (hg : b.grownBy c row) (hr : ∀ k, row = some k → a.heap.size ≤ k) : Only R a c :=
  ⟨hg.os.trans h.os, hg.tape.trans h.tape, hg.output.trans h.output, Nat.le_trans h.size hg.size, fun i hi hne => (hg.block i (by have := h.size; omega) (fun e => by have := hr i e.symm; omega)).trans (h.block i hi hne)⟩
theorem own_at {w : World} {base : Nat} {v : Value} {cs : List Col} (h : OwnCols w base v cs) (o : Obj) : (w.alloc o).drew.ownsRow base 44 5 v cs.length (flat cs) :=
  OwnCols.below h (((Below.refl _ _).alloc (Nat.le_refl _) o).drew)
theorem col_at (W : World) (a b i d o : Int) : ∀ j u, (Col.cells ⟨a, b, i, d, o⟩)[j]? = some u → (W.alloc (.cells #[.int .i64 a, .int .i64 b, .int .i64 i, .int .i64 d, .int .i64 o] 44)).drew.cell? ((⟨W.heap.size, 0, none⟩ : Addr).add j) = some u :=
  fun j u h => col_news W a b i d o j u h
theorem size_at {w1 w5 : World} (h : w1.heap.size ≤ w5.heap.size) (o : Obj) : w1.heap.size ≤ (w5.alloc o).drew.heap.size := by
  have : (w5.alloc o).drew.heap.size = w5.heap.size + 1 := by simp
  omega
set_option maxHeartbeats 6400000 in
theorem s_taken (R p : Nat) (n : Int) (w : World) (hr : Rdr w R p) (hn1 : 0 ≤ n) (hn2 : n ≤ 1000) (hp : p ≤ 30000) :
    Calls Tryd.prog 61 #[.pointer (some ⟨R, 0, none⟩), .int .i64 n] w (DrawnPost R w) := by
  have hRw := hr.lt
  obtain ⟨i0, hi0, hz0, hz1, hz2⟩ := info_parts info_col
  go_enter Tryd.func61, Tryd.ntmps61
  go_wp2_with fail
  refine (s_greater R p 6 _ hr (by omega) (by omega) (by omega)).mono ?_
  rintro e w1 ⟨s, t, p1, hs, ht, rfl, hp1, hr1, ho1⟩
  have hss : s.size ≤ maxLen := by unfold maxLen; omega
  have hts : t.size ≤ maxLen := by unfold maxLen; omega
  go_wp2_with fail
  refine (s_takenOf s t _ hss hts).mono ?_
  rintro e w2 ⟨v, rfl, own2, b2⟩
  have hsmall := fun k c => taken_small (s := s) (t := t) (k := k) (c := c)
  have hlen := takenL_len s t
  obtain ⟨cs, hcs⟩ : ∃ cs, cs = takenL s t := ⟨_, rfl⟩
  rw [← hcs] at own2 hsmall hlen
  clear hcs
  obtain ⟨A, cap, rfl, hnc, hcb⟩ := own_capb own2
  have m2 := own2.mut cap
  have hr2 := hr1.below b2
  have ho2 := ho1.trans (Only.of_below b2)
  have hsz2 := ho1.size
  have HS := Lib.hid hsmall
  have hR1 : R < w1.heap.size := by omega
  have b2s := b2.size
  clear b2 ho1 hr1 hsmall
  go_wp2_with fail
  refine (s_odd R p1 n _ hr2 hn1 (by omega) (by omega)).mono ?_
  rintro e w3 ⟨b, p2, rfl, hp2, hr3, ho3⟩
  have OW3 := Lib.hid (own2.only ho3 hR1)
  have hw23 := Nat.le_trans b2s ho3.size
  clear own2
  have m3 := m2.only ho3 (by omega)
  have ho3' := ho2.trans ho3
  have M3 := Lib.hid (m3.mono hsz2)
  clear m2 m3 ho2 ho3 hr2
  cases b with
  | false =>
    go_wp2_with fail
    go_ret
    exact ⟨_, cs, rfl, by omega, M3.out, ho3'⟩
  | true =>
    by_cases hne : cs = []
    · have h0 : cs.length = 0 := by rw [hne]; rfl
      have t0 : ¬ (0 : Int) < (cs.length : Int) := by omega
      clear h0 hne
      go_wp2_with fail
      go_ret
      exact ⟨_, cs, rfl, by omega, M3.out, ho3'⟩
    · obtain ⟨g, arr, cap', hv, raw3⟩ := M3.out.raw hne
      injection hv with hA _ hcap
      subst hA hcap
      have hpos : 0 < cs.length := by
        rcases Nat.eq_zero_or_pos cs.length with h0 | h0
        · exact absurd (List.eq_nil_of_length_eq_zero h0) hne
        · exact h0
      have t0 : (0 : Int) < (cs.length : Int) := by omega
      clear hne M3
      go_wp2_with fail
      refine (s_pickI R p2 (cs.length : Int) _ hr3 (by omega) (by omega) (by omega)).mono ?_
      rintro e w4 ⟨k, hk, rfl, hr4, ho4⟩
      go_wp2_with fail
      refine (s_pickI R _ 5 _ hr4 (by omega) (by omega) (by omega)).mono ?_
      rintro e w5 ⟨m, hm, rfl, hr5, ho5⟩
      have raw5 := (raw3.only ho4 (by omega)).only ho5 (by omega)
      have HO := Lib.hid ((ho3'.trans ho4).trans ho5)
      have OW5 := Lib.hid ((OW3.out.only ho4 hR1).only ho5 hR1)
      have hkl : k < cs.length := by omega
      obtain ⟨c, hck⟩ : ∃ c, cs[k]? = some c := ⟨_, List.getElem?_eq_getElem hkl⟩
      obtain ⟨⟨a1, a2⟩, ⟨b1, b2⟩, ⟨c1, c2⟩, ⟨d1, d2⟩, ⟨e1, e2⟩⟩ := HS.out k c hck
      obtain ⟨x0, x1, x2, x3, x4⟩ := raw5.cells hck
      have f1 := raw5.frozen (k * 5 + 1)
      have f3 := raw5.frozen (k * 5 + 3)
      have f4 := raw5.frozen (k * 5 + 4)
      have hg5 := raw5.lt
      have hgw : w.heap.size ≤ g := raw5.1
      have HR := Lib.hid raw5
      have HK := Lib.hid hck
      have hw5 := HO.out.size
      have HS2 := Lib.hid HS.out
      have HW15 := Lib.hid (Nat.le_trans (Nat.le_trans hw23 ho4.size) ho5.size)
      clear raw3 raw5 ho3' ho4 ho5 hr3 hr4 hck HS hr
      rcases int_cases5 hm with h | h | h | h | h
      · rw [h]
        clear h hm
        go_wp2_with fail
        go_ret
        exact drawn_of (HR.out.putD HK.out _) (by simp) hlen (HO.out.far hgw _)
      · rw [h]
        clear h hm
        go_wp2_with fail
        go_ret
        exact drawn_of (HR.out.putO HK.out _) (by simp) hlen (HO.out.far hgw _)
      · rw [h]
        clear h hm
        go_wp2_with fail
        go_ret
        exact drawn_of (HR.out.putB HK.out _) (by simp) hlen (HO.out.far hgw _)
      · rw [h]
        clear h hm
        go_wp2_with fail
        refine (s_takenOf s s _ hss hss).mono ?_
        rintro e w6 ⟨v, rfl, own6, b6⟩
        obtain ⟨A6, cap6, rfl, hnc6, hcb6⟩ := own_capb own6
        clear own6
        go_wp2_with fail
        go_ret
        exact ⟨_, [], rfl, by simp, ⟨_, _, rfl, fun h => absurd rfl h⟩, HO.out.trans (Only.of_below b6)⟩
      · rw [h]
        clear h hm x0 x1 x2 x3 x4 f1 f3 f4
        obtain ⟨m, hm⟩ : ∃ m, m = cs.length - 1 := ⟨_, rfl⟩
        obtain ⟨cm, hcm⟩ : ∃ c, cs[m]? = some c := ⟨_, List.getElem?_eq_getElem (by omega)⟩
        obtain ⟨_, _, _, _, x4⟩ := HR.out.cells hcm
        obtain ⟨_, _, _, _, ⟨o1, o2⟩⟩ := HS2.out m cm hcm
        have e1 : IntKind.i64.wrap ((cs.length : Int) - 1) = (m : Int) := by rw [IntWalk.i64_in _ (by omega)]; omega
        have hmc : m < cs.length := by omega
        have hnew := World.new_ne w5 ⟨g, m * 5 + 4, none⟩ x4
        clear hcm hm
        have LAW : ∀ (ops : Array Oper) (o : Oper) (a : Act) (K : Act → World → Prop) (Q : Exit → Act → World → Prop) (E : Prop), o.guard = none →
            o.op = .call { callee := .builtin .append, args := #[.tmp 31, .tmp 48], argTypes := #[33, 33] } → a.eval (.tmp 31) = .slice (some ⟨g, 0, none⟩) cs.length cap → a.eval (.tmp 48) = .slice (some ⟨w5.heap.size, 0, none⟩) 1 1 →
            (∀ g2 cap2 w', w'.ownsRow w1.heap.size 44 5 (.slice (some ⟨g2, 0, none⟩) (cs.length + 1) cap2) (cs.length + 1) (flat cs ++ (Col.cells ⟨0, 1, cm.o, IntKind.i64.wrap (9 - cm.o), 1⟩)) → Only R w w' → K (a.put o.dst (.slice (some ⟨g2, 0, none⟩) (cs.length + 1) cap2)) w') →
            (if Region.wanted o (yielded ops a.tmps) = true then Oper.wp Tryd.prog o a (w5.alloc (.cells #[.int .i64 0, .int .i64 1, .int .i64 cm.o, .int .i64 (IntKind.i64.wrap (9 - cm.o)), .int .i64 1] 44)).drew K Q else E) := by
          intro ops o a K Q E h1 h2 h3 h4 h5
          refine step_append_lies _ h1 (.tmp 31) (.tmp 48) 33 h2 w1.heap.size 44 i0 (.agg #[.int .i64 0, .int .i64 0, .int .i64 0, .int .i64 0, .int .i64 0]) 5 40 Tryd.underlying33 hi0 hz0 hz1 hz2 rfl (by decide) (.slice (some ⟨g, 0, none⟩) cs.length cap) cs.length (flat cs) h3 (own_at OW5.out _) ⟨w5.heap.size, 0, none⟩ 1 1 (Col.cells ⟨0, 1, cm.o, IntKind.i64.wrap (9 - cm.o), 1⟩) h4 rfl (col_at _ _ _ _ _ _) (col_one _ _ _ _ _) (by omega) (by unfold maxLen; omega) (by omega) (size_at HW15.out _) _ rfl ?_
          intro g2 cap2 w6 hown6 hgrow6 _ _
          refine h5 g2 cap2 w6 hown6 ?_
          exact ((HO.out.alloc _).drew).grown hgrow6 (fun k hk => by have hk' : some g = some k := hk; injection hk' with e; omega)
        have HL := Lib.hid LAW
        clear LAW
        go_wp2_with fail
        go_region_law (first | (refine HL.out _ _ _ _ _ _ rfl rfl (by simp [Act.eval]) (by simp [Act.eval]) ?_; intro g2 cap2 w6 hown6 honly6))
        all_goals
          go_wp2_with fail
          go_ret
          exact own_drawn (own_more (c := ⟨0, 1, cm.o, IntKind.i64.wrap (9 - cm.o), 1⟩) hown6) hsz2 (by rw [List.length_append, List.length_singleton]; omega) honly6
end Go.Proofs.YtpnondeaiinccaaDoor
