/- Transcripts that are drawn: one number of one column is written; the drawing of two numerals, the greater one first. -/
import Derived.Test.YtpnondeaiinccaaDoorBoth
import Derived.Test.YtpnondeaiinccaaDoorMade4
namespace Go.Proofs.YtpnondeaiinccaaDoor
open Go.RowKit
set_option linter.unusedVariables false
set_option maxRecDepth 100000
theorem Only.far {R : Nat} {a b : World} (h : Only R a b) {p : Addr} (hp : a.heap.size ≤ p.block) (u : Value) : Only R a (b.setCell p u) :=
  ⟨h.os, h.tape, h.output, by simp [World.setCell]; exact h.size, fun i hi hne => (Below.heap_setCell b p u i (fun e => by omega)).trans (h.block i hi hne)⟩
theorem arrCol_iff {a : Array Value} {k : Nat} {c : Col} : ArrCol a k c ↔ ∀ i, i < 5 → a[k * 5 + i]? = c.cells[i]? := by
  constructor
  · rintro ⟨h0, h1, h2, h3, h4⟩ i hi
    match i, hi with
    | 0, _ => exact h0
    | 1, _ => exact h1
    | 2, _ => exact h2
    | 3, _ => exact h3
    | 4, _ => exact h4
  · intro h
    exact ⟨h 0 (by omega), h 1 (by omega), h 2 (by omega), h 3 (by omega), h 4 (by omega)⟩
/-- a block of columns that may be written -/
def Raw (w : World) (base g : Nat) (arr : Array Value) (cs : List Col) : Prop :=
  base ≤ g ∧ Blk w g 44 arr ∧ cs.length * 5 ≤ arr.size ∧ ∀ k c, cs[k]? = some c → ArrCol arr k c
theorem Mut.raw {w : World} {base : Nat} {v : Value} {cs : List Col} (h : Mut w base v cs) (hne : cs ≠ []) : ∃ g arr cap, v = .slice (some ⟨g, 0, none⟩) cs.length cap ∧ Raw w base g arr cs := by
  obtain ⟨A, c, rfl, hc⟩ := h
  obtain ⟨g, arr, rfl, hr⟩ := hc hne
  exact ⟨g, arr, c, rfl, hr⟩
section
variable {w w' : World} {base g : Nat} {arr : Array Value} {cs : List Col}
theorem Raw.mut (h : Raw w base g arr cs) (cap : Nat) : Mut w base (.slice (some ⟨g, 0, none⟩) cs.length cap) cs := ⟨_, cap, rfl, fun _ => ⟨g, arr, rfl, h⟩⟩
theorem Raw.lt (h : Raw w base g arr cs) : g < w.heap.size := h.2.1.lt
theorem Raw.only {R : Nat} (h : Raw w base g arr cs) (ho : Only R w w') (hR : R < base) : Raw w' base g arr cs := ⟨h.1, ho.blk h.2.1 (by have := h.1; omega), h.2.2⟩
theorem Raw.alloc (h : Raw w base g arr cs) (o : Obj) : Raw (w.alloc o) base g arr cs := ⟨h.1, h.2.1.alloc o, h.2.2⟩
theorem Raw.below {B : Nat} (h : Raw w base g arr cs) (hb : Below B w w') (hg : g < B) : Raw w' base g arr cs := ⟨h.1, h.2.1.below hb hg, h.2.2⟩
theorem Raw.cells {k : Nat} {c : Col} (h : Raw w base g arr cs) (hk : cs[k]? = some c) : ColCells w g k c := h.2.1.colCells (h.2.2.2 k c hk)
theorem Raw.frozen (h : Raw w base g arr cs) (i : Nat) : w.frozen? ⟨g, i, none⟩ = false := h.2.1.frozen i
theorem Raw.put {k j : Nat} {c c' : Col} {x : Value} (h : Raw w base g arr cs) (hk : cs[k]? = some c) (hj : j < 5) (hc : c'.cells = c.cells.set j x) :
    Raw (w.setCell ⟨g, k * 5 + j, none⟩ x) base g (arr.setIfInBounds (k * 5 + j) x) (cs.set k c') := by
  obtain ⟨h1, h2, h3, h4⟩ := h
  have hkl : k < cs.length := (List.getElem?_eq_some_iff.1 hk).1
  have hb : k * 5 + j < arr.size := by omega
  refine ⟨h1, h2.set_ _ _, by rw [List.length_set, Array.size_setIfInBounds]; exact h3, fun m d hm => arrCol_iff.2 fun i hi => ?_⟩
  rw [get_setIf _ _ _ _ hb]
  by_cases e : m = k
  · subst e
    have hd : d = c' := by
      rw [List.getElem?_set_self hkl] at hm
      exact (Option.some.inj hm).symm
    subst hd
    have ha := arrCol_iff.1 (h4 m c hk) i hi
    rw [hc]
    by_cases ej : j = i
    · subst ej
      rw [if_pos rfl, List.getElem?_set_self (by show j < 5; exact hj)]
    · rw [if_neg (by omega), List.getElem?_set_ne ej]
      exact ha
  · have hd : cs[m]? = some d := by
      rw [List.getElem?_set_ne (fun x => e x.symm)] at hm
      exact hm
    rw [if_neg (by omega)]
    exact arrCol_iff.1 (h4 m d hd) i hi
theorem Raw.putA {k : Nat} {c : Col} (h : Raw w base g arr cs) (hk : cs[k]? = some c) (x : Int) : Raw (w.setCell ⟨g, k * 5, none⟩ (.int .i64 x)) base g (arr.setIfInBounds (k * 5) (.int .i64 x)) (cs.set k ⟨x, c.b, c.i, c.d, c.o⟩) := h.put (j := 0) hk (by omega) rfl
theorem Raw.putB {k : Nat} {c : Col} (h : Raw w base g arr cs) (hk : cs[k]? = some c) (x : Int) : Raw (w.setCell ⟨g, k * 5 + 1, none⟩ (.int .i64 x)) base g (arr.setIfInBounds (k * 5 + 1) (.int .i64 x)) (cs.set k ⟨c.a, x, c.i, c.d, c.o⟩) := h.put (j := 1) hk (by omega) rfl
theorem Raw.putI {k : Nat} {c : Col} (h : Raw w base g arr cs) (hk : cs[k]? = some c) (x : Int) : Raw (w.setCell ⟨g, k * 5 + 2, none⟩ (.int .i64 x)) base g (arr.setIfInBounds (k * 5 + 2) (.int .i64 x)) (cs.set k ⟨c.a, c.b, x, c.d, c.o⟩) := h.put (j := 2) hk (by omega) rfl
theorem Raw.putD {k : Nat} {c : Col} (h : Raw w base g arr cs) (hk : cs[k]? = some c) (x : Int) : Raw (w.setCell ⟨g, k * 5 + 3, none⟩ (.int .i64 x)) base g (arr.setIfInBounds (k * 5 + 3) (.int .i64 x)) (cs.set k ⟨c.a, c.b, c.i, x, c.o⟩) := h.put (j := 3) hk (by omega) rfl
theorem Raw.putO {k : Nat} {c : Col} (h : Raw w base g arr cs) (hk : cs[k]? = some c) (x : Int) : Raw (w.setCell ⟨g, k * 5 + 4, none⟩ (.int .i64 x)) base g (arr.setIfInBounds (k * 5 + 4) (.int .i64 x)) (cs.set k ⟨c.a, c.b, c.i, c.d, x⟩) := h.put (j := 4) hk (by omega) rfl
end
/-- some columns that may be written, drawn with a reader R -/
def DrawnPost (R : Nat) (w : World) (e : Ending) (w' : World) : Prop := ∃ (v : Value) (cs : List Col), e = .returned v ∧ cs.length ≤ 10 ∧ Mut w' w.heap.size v cs ∧ Only R w w'
/-- an end of a drawing: the columns cs in block g -/
theorem drawn_of {R g : Nat} {w w' : World} {arr : Array Value} {cs cs' : List Col} {cap : Nat} (h : Raw w' w.heap.size g arr cs') (hl : cs'.length = cs.length) (h9 : cs.length ≤ 9) (ho : Only R w w') : DrawnPost R w (.returned (.slice (some ⟨g, 0, none⟩) cs.length cap)) w' :=
  ⟨_, cs', rfl, by omega, by rw [← hl]; exact h.mut cap, ho⟩
theorem Mut.only {w w' : World} {base R : Nat} {v : Value} {cs : List Col} (h : Mut w base v cs) (ho : Only R w w') (hR : R < base) : Mut w' base v cs := by
  obtain ⟨A, c, hv, hc⟩ := h
  refine ⟨A, c, hv, fun hne => ?_⟩
  obtain ⟨g, arr, hA, hg, hb, hr⟩ := hc hne
  exact ⟨g, arr, hA, hg, ho.blk hb (by omega), hr⟩
theorem set_ne {cs : List Col} {k : Nat} {c : Col} (h : (cs.set k c).length ≤ 10) : cs.length ≤ 10 := by rwa [List.length_set] at h
/-- small numbers -/
def SmallC (c : Col) : Prop := (-20 ≤ c.a ∧ c.a ≤ 20) ∧ (-20 ≤ c.b ∧ c.b ≤ 20) ∧ (-20 ≤ c.i ∧ c.i ≤ 20) ∧ (-20 ≤ c.d ∧ c.d ≤ 20) ∧ (-20 ≤ c.o ∧ c.o ≤ 20)
theorem seq_small {f : Nat → Col} {n k : Nat} {c : Col} (h : ∀ k, SmallC (f k)) (hc : (seqTo f n)[k]? = some c) : SmallC c := by
  obtain ⟨_, rfl⟩ := seqTo_get_iff hc; exact h k
theorem added_small {s t : ByteArray} {k : Nat} {c : Col} (h : (addedL s t)[k]? = some c) : SmallC c := by
  by_cases hs : numOkS s = true
  · by_cases ht : numOkS t = true
    · rw [addedL_ok hs ht] at h
      refine seq_small (fun k => ?_) h
      have h1 := dAtS_le hs k
      have h2 := dAtS_le ht k
      have h3 := addCarry_bd hs ht k
      unfold SmallC addCol
      simp only
      refine ⟨by omega, by omega, by omega, by omega, by omega⟩
    · rw [addedL_bad2 (ne_true ht)] at h; simp at h
  · rw [addedL_bad1 (ne_true hs)] at h; simp at h
theorem taken_small {s t : ByteArray} {k : Nat} {c : Col} (h : (takenL s t)[k]? = some c) : SmallC c := by
  rcases Int.lt_or_le (orderI s t) 0 with h0 | h0
  · rw [takenL_no h0] at h; simp at h
  · obtain ⟨hs, ht, _⟩ := order_nums h0
    rw [takenL_ok h0] at h
    refine seq_small (fun k => ?_) h
    have h1 := dAtS_le hs k
    have h2 := dAtS_le ht k
    have h3 := takeBor_bd s t k
    by_cases hn : (dAtS s k : Int) - (dAtS t k : Int) - takeBor s t k < 0
    · rw [takeCol_neg hn]; unfold SmallC; simp only; refine ⟨by omega, by omega, by omega, by omega, by omega⟩
    · rw [takeCol_pos hn]; unfold SmallC; simp only; refine ⟨by omega, by omega, by omega, by omega, by omega⟩
theorem row_small {s : ByteArray} {d : Int} {k : Nat} {c : Col} (h : (rowL s d)[k]? = some c) : SmallC c := by
  by_cases hs : numOkS s = true
  · by_cases hd : inB d 0 9 = true
    · have hd9 := inB_iff.1 hd
      rw [rowL_ok hs hd] at h
      refine seq_small (fun k => ?_) h
      have h1 := dAtS_le hs k
      have h3 := rowCar_bd hs hd9 k
      have h4 := rowCar_bd hs hd9 (k + 1)
      have h5 := mul_le81' (a := (dAtS s k : Int)) (b := d) (by omega) hd9
      unfold SmallC rowCol
      simp only
      refine ⟨by omega, by omega, by omega, by omega, by omega⟩
    · rw [rowL_bad2 (ne_true hd)] at h; simp at h
  · rw [rowL_bad1 (ne_true hs)] at h; simp at h
def ColsPost (w : World) (e : Ending) (w' : World) : Prop := ∃ (v : Value) (cs : List Col), e = .returned v ∧ cs.length ≤ 10 ∧ Mut w' w.heap.size v cs ∧ Below w.heap.size w w'
theorem DrawnPost.cols {R : Nat} {w w1 w' : World} {e : Ending} (h : DrawnPost R w1 e w') (hb : Below w.heap.size w w1) (hR : w.heap.size ≤ R) : ColsPost w e w' := by
  obtain ⟨v, cs, he, hl, hm, ho⟩ := h
  exact ⟨v, cs, he, hl, hm.mono hb.size, hb.trans (ho.below_ hb.size hR)⟩
theorem int_cases6 {m : Nat} (h : (m : Int) < 6) : (m : Int) = 0 ∨ (m : Int) = 1 ∨ (m : Int) = 2 ∨ (m : Int) = 3 ∨ (m : Int) = 4 ∨ (m : Int) = 5 := by omega
theorem int_cases5 {m : Nat} (h : (m : Int) < 5) : (m : Int) = 0 ∨ (m : Int) = 1 ∨ (m : Int) = 2 ∨ (m : Int) = 3 ∨ (m : Int) = 4 := by omega
set_option maxHeartbeats 3200000 in
theorem s_greater (R p : Nat) (most : Int) (w : World) (hr : Rdr w R p) (hm1 : 1 ≤ most) (hm2 : most ≤ 9) (hp : p ≤ 40000) :
    Calls Tryd.prog 81 #[.pointer (some ⟨R, 0, none⟩), .int .i64 most] w (BothPost R (p + 1) w) := by
  go_enter Tryd.func81, Tryd.ntmps81
  go_wp2_with fail
  refine (s_both R p most _ hr hm1 hm2 hp).mono ?_
  rintro e w1 ⟨s, t, p1, hs, ht, rfl, hp1, hr1, ho1⟩
  have hss : s.size ≤ maxLen := by unfold maxLen; omega
  have hts : t.size ≤ maxLen := by unfold maxLen; omega
  go_wp2_with fail
  refine (s_orderOf s t _ hss hts).mono ?_
  rintro e w2 ⟨rfl, n, rfl⟩
  by_cases h1 : orderI s t = -1
  · have t1 : (orderI s t == -1) = true := by rw [h1]; rfl
    clear h1
    go_wp2_with fail
    refine (s_pickI R p1 10 _ (hr1.drewN _) (by omega) (by omega) (by omega)).mono ?_
    rintro e w3 ⟨k, hk, rfl, hr3, ho3⟩
    have HO := Lib.hid ((ho1.drewN n).trans ho3)
    by_cases hk0 : (0 : Int) < (k : Int)
    · go_wp2_with fail
      go_ret2
      exact ⟨t, s, p1 + 1, ht, hs, rfl, by omega, hr3, HO.out⟩
    · go_wp2_with fail
      go_ret2
      exact ⟨s, t, p1 + 1, hs, ht, rfl, by omega, hr3, HO.out⟩
  · have t1 : (orderI s t == -1) = false := by rw [beq_eq_false_iff_ne]; exact h1
    clear h1
    go_wp2_with fail
    go_ret2
    exact ⟨s, t, p1, hs, ht, rfl, by omega, hr1.drewN _, ho1.drewN _⟩
set_option maxHeartbeats 800000 in
theorem s_drawTakenOf (a : Option Addr) (len cap : Nat) (zs : List Int) (w : World) (h : IsBytes w a len cap zs) (hl : len ≤ 1048576) :
    Calls Tryd.prog 35 #[.slice a len cap] w (TwoPost w) := by
  go_enter Tryd.func35, Tryd.ntmps35
  go_wp2_with fail
  refine (s_open a len cap zs _ h hl).mono ?_
  rintro e w1 ⟨R, rfl, hR, hr, hb⟩
  go_wp2_with fail
  refine (s_greater R 0 _ _ hr (by omega) (by omega) (by omega)).mono ?_
  rintro e w2 ⟨s, t, p', hs, ht, rfl, hp', hr2, ho2⟩
  go_wp2_with fail
  go_ret2
  exact ⟨s, t, hs, ht, rfl, hb.trans (ho2.below_ hb.size hR)⟩
set_option maxHeartbeats 800000 in
theorem s_drawDifferenceOf (a : Option Addr) (len cap : Nat) (zs : List Int) (w : World) (h : IsBytes w a len cap zs) (hl : len ≤ 1048576) :
    Calls Tryd.prog 42 #[.slice a len cap] w (TwoPost w) := by
  go_enter Tryd.func42, Tryd.ntmps42
  go_wp2_with fail
  refine (s_open a len cap zs _ h hl).mono ?_
  rintro e w1 ⟨R, rfl, hR, hr, hb⟩
  go_wp2_with fail
  refine (s_greater R 0 _ _ hr (by omega) (by omega) (by omega)).mono ?_
  rintro e w2 ⟨s, t, p', hs, ht, rfl, hp', hr2, ho2⟩
  go_wp2_with fail
  go_ret2
  exact ⟨s, t, hs, ht, rfl, hb.trans (ho2.below_ hb.size hR)⟩
end Go.Proofs.YtpnondeaiinccaaDoor
