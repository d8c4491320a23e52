/- What an argument that is a slice of columns, of bytes or of texts reads as. -/
import Derived.Test.YthddidjdgbdlbaaDoorMem
import Derived.Deep.Slices
import Derived.Deep.Fields
import Derived.ChangeSame
import Derived.ProofKit
import Derived.OpenShut
namespace Go.Proofs.YthddidjdgbdlbaaDoor
open Go.RowKit Go.ChangeShapes Go.WideShapes Go.Deep

section
variable {H : Type} {enc : TypeId × Value → H} {P : Program} {w : World} {base : Nat} {spare : Nat → Bool} {held : Bool}
theorem open_slice_fields {t e : TypeId} {fs : Array Field} {fuel : Nat} {cs : List Value} {x : DataW H × List MemPlace} (ht : P.underlying t = some (.slice e)) (he : P.underlying e = some (.struct fs))
    (hone : oneCellFields P fs = true) (hC : P.cellsOf e = fs.size) (h : DataW.trod enc P w base spare held fuel t cs = some x) :
    (cs = [.slice none 0 0] ∧ x = (.nil, [])) ∨
    ∃ (a : Addr) (len cap m : Nat) (D : Nat → DataW H) (Pl : Nat → List MemPlace), cs = [.slice (some a) len cap] ∧ base ≤ a.block ∧ len ≤ cap ∧ cap ≤ maxLen ∧ m = (if spare a.block then cap else len) ∧
      x = (.slice ((List.range len).map D) ((List.range (m - len)).map fun j => D (len + j)), MemPlace.row a (m * fs.size) ++ (List.range m).flatMap Pl) ∧
      ∀ i, i < m → ∃ (ys : List (DataW H × List MemPlace)) (n : Nat), D i = .agg (ys.map (·.1)) ∧ Pl i = ys.flatMap (·.2) ∧ ys.length = fs.size ∧
        ∀ (j : Nat) (f : Field), fs[j]? = some f → ∃ (v : Value) (y : DataW H × List MemPlace), w.cell? (a.add (i * fs.size + j)) = some v ∧ ys[j]? = some y ∧ DataW.trod enc P w base spare held n f.type [v] = some y := by
  rcases open_slice ht h with h0 | ⟨a, len, cap, m, n, D, Pl, hcs, hb, hl, hm, hmm, hx, hi⟩
  · exact .inl h0
  · refine .inr ⟨a, len, cap, m, D, Pl, hcs, hb, hl, hm, hmm, by rw [hC] at hx; exact hx, fun i him => ?_⟩
    obtain ⟨cs', hc, ht'⟩ := hi i him
    rw [hC] at hc
    obtain ⟨ys, n', hn', hy, hlen, hyl, hf⟩ := DataW.trod_struct he ht'
    obtain ⟨_, hcl, hat⟩ := World.cells?_some hc
    simp only [Prod.mk.injEq] at hy
    refine ⟨ys, n', hy.1, hy.2, hyl, fun j f hj => ?_⟩
    obtain ⟨ho, hk⟩ := hone_of hone j f hj
    have hjl : j < fs.size := (Array.getElem?_eq_some_iff.1 hj).1
    have hcell := hat j hjl
    have hv : cs'[j]? = some (cs'[j]'(by omega)) := List.getElem?_eq_getElem (by omega)
    have h1 := hf j f hj
    rw [ho, hk] at h1
    have hone' : (cs'.drop j).take 1 = [cs'[j]'(by omega)] := by
      rw [List.drop_eq_getElem_cons (by omega)]
      rfl
    rw [hone'] at h1
    have hys : ys[j]? = some (ys[j]'(by omega)) := List.getElem?_eq_getElem (by omega)
    refine ⟨_, _, ?_, hys, h1.trans hys⟩
    rw [← Go.Deep.add_add, hcell, hv]
end

/-- the slice of the laws' columns that came in reads as cs -/
def IsCols (w : World) (a : Option Addr) (len _cap : Nat) (cs : List Col) : Prop :=
  cs.length = len ∧ len ≤ maxLen ∧ (∀ (k : Nat) (c : Col), cs[k]? = some c → c.wf) ∧
  (cs ≠ [] → ∃ b off, a = some ⟨b, off, none⟩ ∧ b < w.heap.size ∧ ∀ (k : Nat) (c : Col), cs[k]? = some c →
    w.cell? ⟨b, off + k * 5, none⟩ = some (.int .i64 c.a) ∧ w.cell? ⟨b, off + k * 5 + 1, none⟩ = some (.int .i64 c.b) ∧ w.cell? ⟨b, off + k * 5 + 2, none⟩ = some (.int .i64 c.i) ∧
    w.cell? ⟨b, off + k * 5 + 3, none⟩ = some (.int .i64 c.d) ∧ w.cell? ⟨b, off + k * 5 + 4, none⟩ = some (.int .i64 c.o))

theorem pick_fn {m : Nat} {R : Nat → Col → Prop} (h : ∀ i, i < m → ∃ c, R i c) : ∃ f : Nat → Col, ∀ i, i < m → R i (f i) :=
  ⟨fun i => if hi : i < m then (h i hi).choose else ⟨0, 0, 0, 0, 0⟩, fun i hi => by simp only [dif_pos hi]; exact (h i hi).choose_spec⟩

theorem view_cols {H : Type} {enc : TypeId × Value → H} {w : World} {base : Nat} {spare : Nat → Bool} {held : Bool} {a : Option Addr} {len cap : Nat} {d : DataW H} {p : List MemPlace}
    (h : DataW.Trod enc Tryd.prog w base spare held 37 (.slice a len cap) d p) : ∃ cs, IsCols w a len cap cs := by
  obtain ⟨fuel, hf⟩ := h
  rcases open_slice_fields Tryd.underlying37 Tryd.underlying70 (by kernel_rfl) (by kernel_rfl) hf with ⟨hcs, _⟩ | ⟨x, l, c, m, D, Pl, hcs, _, hl, hm, hmm, _, hi⟩
  · simp [Value.cells] at hcs
    obtain ⟨rfl, rfl, rfl⟩ := hcs
    exact ⟨[], rfl, by unfold maxLen; omega, fun k c hk => by simp at hk, fun hne => absurd rfl hne⟩
  · simp [Value.cells] at hcs
    obtain ⟨rfl, rfl, rfl⟩ := hcs
    have hlm : len ≤ m := by rw [hmm]; split <;> omega
    have key : ∀ i, i < m → ∃ c : Col, c.wf ∧ w.cell? (x.add (i * 5 + 0)) = some (.int .i64 c.a) ∧ w.cell? (x.add (i * 5 + 1)) = some (.int .i64 c.b) ∧ w.cell? (x.add (i * 5 + 2)) = some (.int .i64 c.i) ∧
        w.cell? (x.add (i * 5 + 3)) = some (.int .i64 c.d) ∧ w.cell? (x.add (i * 5 + 4)) = some (.int .i64 c.o) := fun i him => by
      obtain ⟨ys, n, _, _, _, hfld⟩ := hi i him
      obtain ⟨v0, y0, c0, _, t0⟩ := hfld 0 _ rfl
      obtain ⟨v1, y1, c1, _, t1⟩ := hfld 1 _ rfl
      obtain ⟨v2, y2, c2, _, t2⟩ := hfld 2 _ rfl
      obtain ⟨v3, y3, c3, _, t3⟩ := hfld 3 _ rfl
      obtain ⟨v4, y4, c4, _, t4⟩ := hfld 4 _ rfl
      obtain ⟨a0, e0, _, w0⟩ := DataW.trod_int Tryd.underlying3 t0
      obtain ⟨a1, e1, _, w1⟩ := DataW.trod_int Tryd.underlying3 t1
      obtain ⟨a2, e2, _, w2⟩ := DataW.trod_int Tryd.underlying3 t2
      obtain ⟨a3, e3, _, w3⟩ := DataW.trod_int Tryd.underlying3 t3
      obtain ⟨a4, e4, _, w4⟩ := DataW.trod_int Tryd.underlying3 t4
      simp at e0 e1 e2 e3 e4
      subst e0 e1 e2 e3 e4
      exact ⟨⟨a0, a1, a2, a3, a4⟩, ⟨w0, w1, w2, w3, w4⟩, c0, c1, c2, c3, c4⟩
    obtain ⟨f, hfn⟩ := pick_fn key
    have hget : ∀ (k : Nat) (c : Col), ((List.range len).map f)[k]? = some c → k < len ∧ f k = c := fun k c hk => by
      rw [List.getElem?_map] at hk
      by_cases hkl : k < len
      · rw [List.getElem?_range hkl] at hk
        simp at hk
        exact ⟨hkl, hk⟩
      · rw [List.getElem?_eq_none (by simp; omega)] at hk
        simp at hk
    refine ⟨(List.range len).map f, by simp, by omega, fun k c hk => ?_, fun hne => ?_⟩
    · obtain ⟨hkl, rfl⟩ := hget k c hk
      exact (hfn k (by omega)).1
    · have hpos : 0 < len := by
        rcases Nat.eq_zero_or_pos len with h0 | h0
        · subst h0; simp at hne
        · exact h0
      obtain ⟨b, off, spot⟩ := x
      have h0 := (hfn 0 (by omega)).2.1
      have hspot : spot = none := by simpa [Addr.add] using World.cell?_spot h0
      subst hspot
      have hbl : b < w.heap.size := by
        have := World.block_lt_of_cell? w _ h0
        simpa [Addr.add] using this
      refine ⟨b, off, rfl, hbl, fun k c hk => ?_⟩
      obtain ⟨hkl, rfl⟩ := hget k c hk
      obtain ⟨_, g0, g1, g2, g3, g4⟩ := hfn k (by omega)
      have ha : ∀ j, (⟨b, off, none⟩ : Addr).add j = ⟨b, off + j, none⟩ := fun j => by
        unfold Addr.add; by_cases hj : j = 0 <;> simp [hj]
      rw [ha] at g0 g1 g2 g3 g4
      exact ⟨g0, by rw [Nat.add_assoc]; exact g1, by rw [Nat.add_assoc]; exact g2, by rw [Nat.add_assoc]; exact g3, by rw [Nat.add_assoc]; exact g4⟩
end Go.Proofs.YthddidjdgbdlbaaDoor
