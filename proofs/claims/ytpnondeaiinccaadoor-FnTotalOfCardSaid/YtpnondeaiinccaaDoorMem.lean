/- Slices of columns in memory: what is read of them, and how that is kept. -/
import Derived.Test.YtpnondeaiinccaaDoorRows
import Derived.Test.YtpnondeaiinccaaDoorPlain3
import Derived.WalkKit
import Derived.WalkSpells
import Derived.Laws.OwnMore
import Derived.Deep.Draws
import Derived.Laws.Rows
import Derived.Lib.Hide
namespace Go.Proofs.YtpnondeaiinccaaDoor
open Go.RowKit

/-- the cells of column k of a row at the head of block g -/
def ColCells (w : World) (g k : Nat) (c : Col) : Prop :=
  w.cell? ⟨g, k * 5, none⟩ = some (.int .i64 c.a) ∧ w.cell? ⟨g, k * 5 + 1, none⟩ = some (.int .i64 c.b) ∧ w.cell? ⟨g, k * 5 + 2, none⟩ = some (.int .i64 c.i) ∧
  w.cell? ⟨g, k * 5 + 3, none⟩ = some (.int .i64 c.d) ∧ w.cell? ⟨g, k * 5 + 4, none⟩ = some (.int .i64 c.o)
/-- the slice value v reads as the columns cs, out of a block below B -/
def Cols (w : World) (B : Nat) (v : Value) (cs : List Col) : Prop :=
  ∃ A c, v = .slice A cs.length c ∧ (cs ≠ [] → ∃ g, A = some ⟨g, 0, none⟩ ∧ g < B ∧ ∀ k col, cs[k]? = some col → ColCells w g k col)

theorem Cols.keep {w w' : World} {B : Nat} {v : Value} {cs : List Col} (h : Cols w B v cs) (hk : ∀ p : Addr, p.block < B → w'.cell? p = w.cell? p) : Cols w' B v cs := by
  obtain ⟨A, c, hv, hc⟩ := h
  refine ⟨A, c, hv, fun hne => ?_⟩
  obtain ⟨g, hA, hg, hcell⟩ := hc hne
  refine ⟨g, hA, hg, fun k col hcol => ?_⟩
  obtain ⟨h0, h1, h2, h3, h4⟩ := hcell k col hcol
  exact ⟨(hk _ hg).trans h0, (hk _ hg).trans h1, (hk _ hg).trans h2, (hk _ hg).trans h3, (hk _ hg).trans h4⟩
theorem Cols.more {w : World} {B B' : Nat} {v : Value} {cs : List Col} (h : Cols w B v cs) (hB : B ≤ B') : Cols w B' v cs := by
  obtain ⟨A, c, hv, hc⟩ := h
  refine ⟨A, c, hv, fun hne => ?_⟩
  obtain ⟨g, hA, hg, hcell⟩ := hc hne
  exact ⟨g, hA, by omega, hcell⟩
theorem Cols.below {w w' : World} {B : Nat} {v : Value} {cs : List Col} (h : Cols w B v cs) (hb : Below B w w') : Cols w' B v cs := h.keep fun _ hp => hb.cell hp
theorem Cols.len {w : World} {B : Nat} {v : Value} {cs : List Col} (h : Cols w B v cs) : ∃ A c, v = .slice A cs.length c := by
  obtain ⟨A, c, hv, _⟩ := h; exact ⟨A, c, hv⟩
theorem ColCells.below {w w' : World} {B g k : Nat} {c : Col} (h : ColCells w g k c) (hg : g < B) (hb : Below B w w') : ColCells w' g k c := by
  obtain ⟨h0, h1, h2, h3, h4⟩ := h
  exact ⟨(hb.cell (p := ⟨g, _, none⟩) hg).trans h0, (hb.cell (p := ⟨g, _, none⟩) hg).trans h1, (hb.cell (p := ⟨g, _, none⟩) hg).trans h2, (hb.cell (p := ⟨g, _, none⟩) hg).trans h3, (hb.cell (p := ⟨g, _, none⟩) hg).trans h4⟩

theorem bcell {W w1 : World} (hb : Below W.heap.size W w1) : (∀ b o, b < W.heap.size → w1.cell? ⟨b, o, none⟩ = W.cell? ⟨b, o, none⟩) ∧ (∀ b o, b < W.heap.size → w1.frozen? ⟨b, o, none⟩ = W.frozen? ⟨b, o, none⟩) :=
  ⟨fun b o h => hb.cell (p := ⟨b, o, none⟩) h, fun b o h => hb.frozen (p := ⟨b, o, none⟩) h⟩
/-- block g is just the cells cs of element type t, none of them frozen -/
def Blk (w : World) (g : Nat) (t : TypeId) (cs : Array Value) : Prop := w.heap[g]? = some (.cells cs t (0, 0))

section
variable {w w' : World} {g : Nat} {t : TypeId} {cs : Array Value}
theorem Blk.lt (h : Blk w g t cs) : g < w.heap.size := by
  rcases Nat.lt_or_ge g w.heap.size with hlt | hge
  · exact hlt
  · unfold Blk at h; rw [Array.getElem?_eq_none hge] at h; cases h
theorem Blk.cell (h : Blk w g t cs) (i : Nat) : w.cell? ⟨g, i, none⟩ = cs[i]? := cell_of_row w g i cs t (0, 0) h
theorem Blk.frozen (h : Blk w g t cs) (i : Nat) : w.frozen? ⟨g, i, none⟩ = false := by
  unfold Blk at h
  simp [World.frozen?, h]
theorem Blk.new (w : World) (t : TypeId) (cs : Array Value) : Blk (w.alloc (.cells cs t)) w.heap.size t cs := heap_alloc_new w _
theorem Blk.drew (h : Blk w g t cs) : Blk w.drew g t cs := h
theorem Blk.drewN (h : Blk w g t cs) (n : Nat) : Blk (w.drewN n) g t cs := h
theorem Blk.alloc (h : Blk w g t cs) (o : Obj) : Blk (w.alloc o) g t cs := (Below.heap_alloc w o g h.lt).trans h
theorem Blk.set_ (h : Blk w g t cs) (i : Nat) (u : Value) : Blk (w.setCell ⟨g, i, none⟩ u) g t (cs.setIfInBounds i u) := by
  unfold Blk at h ⊢
  simp [World.setCell, Array.getElem?_modify, h]
theorem Blk.far (h : Blk w g t cs) {p : Addr} (hp : g ≠ p.block) (u : Value) : Blk (w.setCell p u) g t cs := (Below.heap_setCell w p u g hp).trans h
theorem Blk.below {B : Nat} (h : Blk w g t cs) (hb : Below B w w') (hg : g < B) : Blk w' g t cs := (hb.block g hg).trans h
theorem Blk.grown {row : Option Nat} (h : Blk w g t cs) (hb : w.grownBy w' row) (hg : some g ≠ row) : Blk w' g t cs := (hb.block g h.lt hg).trans h
end

/-- the five numbers of column k of a row of cells -/
def ArrCol (cs : Array Value) (k : Nat) (c : Col) : Prop :=
  cs[k * 5]? = some (.int .i64 c.a) ∧ cs[k * 5 + 1]? = some (.int .i64 c.b) ∧ cs[k * 5 + 2]? = some (.int .i64 c.i) ∧ cs[k * 5 + 3]? = some (.int .i64 c.d) ∧ cs[k * 5 + 4]? = some (.int .i64 c.o)
theorem Blk.colCells {w : World} {g t k : Nat} {cs : Array Value} {c : Col} (h : Blk w g t cs) (hc : ArrCol cs k c) : ColCells w g k c :=
  ⟨(h.cell _).trans hc.1, (h.cell _).trans hc.2.1, (h.cell _).trans hc.2.2.1, (h.cell _).trans hc.2.2.2.1, (h.cell _).trans hc.2.2.2.2⟩
theorem get_setIf (cs : Array Value) (i j : Nat) (u : Value) (_hi : i < cs.size) : (cs.setIfInBounds i u)[j]? = if i = j then some u else cs[j]? := by
  rw [Array.getElem?_setIfInBounds]
  split <;> rfl
/-- column k stored into a row -/
def setCol (cs : Array Value) (k : Nat) (c : Col) : Array Value :=
  ((((cs.setIfInBounds (k * 5) (.int .i64 c.a)).setIfInBounds (k * 5 + 1) (.int .i64 c.b)).setIfInBounds (k * 5 + 2) (.int .i64 c.i)).setIfInBounds (k * 5 + 3) (.int .i64 c.d)).setIfInBounds (k * 5 + 4) (.int .i64 c.o)
theorem setCol_size (cs : Array Value) (k : Nat) (c : Col) : (setCol cs k c).size = cs.size := by simp [setCol]
theorem setCol_get {cs : Array Value} {k : Nat} {c : Col} (h : k * 5 + 4 < cs.size) (j : Nat) :
    (setCol cs k c)[j]? = if k * 5 + 4 = j then some (.int .i64 c.o) else if k * 5 + 3 = j then some (.int .i64 c.d) else if k * 5 + 2 = j then some (.int .i64 c.i) else if k * 5 + 1 = j then some (.int .i64 c.b) else if k * 5 = j then some (.int .i64 c.a) else cs[j]? := by
  unfold setCol
  rw [get_setIf _ _ _ _ (by simp; omega), get_setIf _ _ _ _ (by simp; omega), get_setIf _ _ _ _ (by simp; omega), get_setIf _ _ _ _ (by simp; omega), get_setIf _ _ _ _ (by omega)]
theorem setCol_same {cs : Array Value} {k : Nat} {c : Col} (h : k * 5 + 4 < cs.size) : ArrCol (setCol cs k c) k c := by
  refine ⟨?_, ?_, ?_, ?_, ?_⟩ <;> rw [setCol_get h] <;> simp
theorem setCol_other {cs : Array Value} {k j : Nat} {c c' : Col} (h : k * 5 + 4 < cs.size) (hc : ArrCol cs j c') (hne : j ≠ k) : ArrCol (setCol cs k c) j c' := by
  obtain ⟨g0, g1, g2, g3, g4⟩ := hc
  refine ⟨?_, ?_, ?_, ?_, ?_⟩ <;> rw [setCol_get h] <;> (repeat rw [if_neg (by omega)]) <;> assumption
theorem Blk.setCol {w : World} {g t : Nat} {cs : Array Value} (h : Blk w g t cs) (k : Nat) (c : Col) :
    Blk (((((w.setCell ⟨g, k * 5, none⟩ (.int .i64 c.a)).setCell ⟨g, k * 5 + 1, none⟩ (.int .i64 c.b)).setCell ⟨g, k * 5 + 2, none⟩ (.int .i64 c.i)).setCell ⟨g, k * 5 + 3, none⟩ (.int .i64 c.d)).setCell ⟨g, k * 5 + 4, none⟩ (.int .i64 c.o)) g t (setCol cs k c) :=
  ((((h.set_ _ _).set_ _ _).set_ _ _).set_ _ _).set_ _ _
/-- the row at block g holds the first columns of cs -/
def ArrCols (a : Array Value) (cs : List Col) (k : Nat) : Prop := a.size = cs.length * 5 ∧ ∀ (j : Nat) (c : Col), j < k → cs[j]? = some c → ArrCol a j c
theorem ArrCols.succ {a : Array Value} {cs : List Col} {k : Nat} {c : Col} (h : ArrCols a cs k) (hc : cs[k]? = some c) : ArrCols (Go.Proofs.YtpnondeaiinccaaDoor.setCol a k c) cs (k + 1) := by
  have hk : k < cs.length := (List.getElem?_eq_some_iff.1 hc).1
  have hb : k * 5 + 4 < a.size := by rw [h.1]; omega
  refine ⟨by rw [setCol_size]; exact h.1, fun j c' hj hc' => ?_⟩
  by_cases e : j = k
  · subst e
    obtain rfl := Option.some.inj (hc.symm.trans hc')
    exact setCol_same hb
  · exact setCol_other hb (h.2 j c' (by omega) hc') e
theorem Cols.of_blk {w : World} {g t cap : Nat} {a : Array Value} {cs : List Col} (h : Blk w g t a) (hc : ArrCols a cs cs.length) : Cols w w.heap.size (.slice (some ⟨g, 0, none⟩) cs.length cap) cs :=
  ⟨_, _, rfl, fun _ => ⟨g, rfl, h.lt, fun k c hk => h.colCells (hc.2 k c (List.getElem?_eq_some_iff.1 hk).1 hk)⟩⟩
end Go.Proofs.YtpnondeaiinccaaDoor
