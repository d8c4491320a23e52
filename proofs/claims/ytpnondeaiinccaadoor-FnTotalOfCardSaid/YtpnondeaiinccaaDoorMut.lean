/- Slices of columns that a law marks: rows that may be written; walks of markColumnS and heldColumnS. -/
import Derived.Test.YtpnondeaiinccaaDoorOwn
import Derived.Test.YtpnondeaiinccaaDoorCol1
import Derived.LoopTactic
namespace Go.Proofs.YtpnondeaiinccaaDoor
open Go.RowKit
set_option linter.unusedVariables false
set_option maxRecDepth 100000
/-- the slice value v holds the columns cs in a block from base on that is whole and not frozen -/
def Mut (w : World) (base : Nat) (v : Value) (cs : List Col) : Prop :=
  ∃ A c, v = .slice A cs.length c ∧ (cs ≠ [] → ∃ g arr, A = some ⟨g, 0, none⟩ ∧ base ≤ g ∧ Blk w g 44 arr ∧ cs.length * 5 ≤ arr.size ∧ ∀ k c, cs[k]? = some c → ArrCol arr k c)
theorem OwnCols.mut {w : World} {base : Nat} {A : Option Addr} {n c : Nat} (c' : Nat) {cs : List Col} (h : OwnCols w base (.slice A n c) cs) : Mut w base (.slice A n c') cs := by
  rcases h.2 with ⟨hv, hn⟩ | ⟨g, cap, cur, hv, hg, hh, hle, hm, hs, ht⟩
  · have e : cs = [] := List.eq_nil_of_length_eq_zero hn
    injection hv with e1 e2 e3
    subst e
    exact ⟨A, c', by rw [e2]; rfl, fun hne => absurd rfl hne⟩
  · injection hv with e1 e2 e3
    refine ⟨A, c', by rw [e2], fun hne => ⟨g, cur, e1, hg, hh, ?_, fun k col hk => ?_⟩⟩
    · have := Nat.mul_le_mul_right 5 hle; omega
    · have hkl : k < cs.length := (List.getElem?_eq_some_iff.1 hk).1
      have at_ : ∀ j, j < 5 → cur[k * 5 + j]? = col.cells[j]? := fun j hj => by
        have e : cur[k * 5 + j]? = (flat cs)[k * 5 + j]? := by rw [← ht, List.getElem?_take, if_pos (by omega)]; simp
        rw [e, flat_get hk j hj]
      exact ⟨at_ 0 (by omega), at_ 1 (by omega), at_ 2 (by omega), at_ 3 (by omega), at_ 4 (by omega)⟩
theorem Mut.cols {w : World} {base : Nat} {v : Value} {cs : List Col} (h : Mut w base v cs) : Cols w w.heap.size v cs := by
  obtain ⟨A, c, hv, hc⟩ := h
  refine ⟨A, c, hv, fun hne => ?_⟩
  obtain ⟨g, arr, hA, _, hb, _, hcell⟩ := hc hne
  exact ⟨g, hA, hb.lt, fun k c hk => hb.colCells (hcell k c hk)⟩
theorem Mut.below {w w' : World} {base : Nat} {v : Value} {cs : List Col} (h : Mut w base v cs) (hb : Below w.heap.size w w') : Mut w' base v cs := by
  obtain ⟨A, c, hv, hc⟩ := h
  refine ⟨A, c, hv, fun hne => ?_⟩
  obtain ⟨g, arr, hA, hg, hbl, hs, hcell⟩ := hc hne
  exact ⟨g, arr, hA, hg, hbl.below hb hbl.lt, hs, hcell⟩
theorem Mut.mono {w : World} {base base' : Nat} {v : Value} {cs : List Col} (h : Mut w base v cs) (hb : base' ≤ base) : Mut w base' v cs := by
  obtain ⟨A, c, hv, hc⟩ := h
  refine ⟨A, c, hv, fun hne => ?_⟩
  obtain ⟨g, arr, hA, hg, hr⟩ := hc hne
  exact ⟨g, arr, hA, by omega, hr⟩
theorem setCol_same' {cs : Array Value} {k : Nat} {c : Col} (h : k * 5 + 5 ≤ cs.size) : ArrCol (setCol cs k c) k c := setCol_same (by omega)
theorem setCol_other' {cs : Array Value} {k j : Nat} {c c' : Col} (h : k * 5 + 5 ≤ cs.size) (hc : ArrCol cs j c') (hne : j ≠ k) : ArrCol (setCol cs k c) j c' := setCol_other (by omega) hc hne
/-- the numbers that a law writes into column k -/
def markCol (k : Nat) : Col := ⟨1 + 5 * (k : Int), 1 + 5 * (k : Int) + 1, 1 + 5 * (k : Int) + 1 + 1, 1 + 5 * (k : Int) + 1 + 1 + 1, 1 + 5 * (k : Int) + 1 + 1 + 1 + 1⟩
theorem arr_at {a : Array Value} {j : Nat} (h : j < a.size) : ∃ v, a[j]? = some v := ⟨_, Array.getElem?_eq_getElem h⟩
end Go.Proofs.YtpnondeaiinccaaDoor
