/- Slices of columns that a call has made itself: owned rows. -/
import Derived.Test.YtpnondeaiinccaaDoorMem
import Derived.Test.YtpnondeaiinccaaDoorPlain4
import Derived.Deep.AppendLies
namespace Go.Proofs.YtpnondeaiinccaaDoor
open Go.RowKit

/-- the slice value v owns the columns cs, in a block from base on -/
def OwnCols (w : World) (base : Nat) (v : Value) (cs : List Col) : Prop := w.ownsRow base 44 5 v cs.length (flat cs)
theorem OwnCols.cols {w : World} {base : Nat} {v : Value} {cs : List Col} (h : OwnCols w base v cs) : Cols w w.heap.size v cs := by
  rcases h.2 with ⟨rfl, hn⟩ | ⟨g, cap, cur, rfl, _, hh, _⟩
  · have e : cs = [] := List.eq_nil_of_length_eq_zero hn
    subst e
    exact ⟨none, 0, rfl, fun hne => absurd rfl hne⟩
  · refine ⟨_, cap, rfl, fun _ => ⟨g, rfl, lt_of_block hh, fun k c hk => ?_⟩⟩
    have hkl : k < cs.length := (List.getElem?_eq_some_iff.1 hk).1
    have at_ : ∀ j, j < 5 → w.cell? ⟨g, k * 5 + j, none⟩ = c.cells[j]? := fun j hj => by
      rw [World.ownsRow.cellAt h (k * 5 + j) (by omega), flat_get hk j hj]
    exact ⟨at_ 0 (by omega), at_ 1 (by omega), at_ 2 (by omega), at_ 3 (by omega), at_ 4 (by omega)⟩
theorem OwnCols.below {w w' : World} {base : Nat} {v : Value} {cs : List Col} (h : OwnCols w base v cs) (hb : Below w.heap.size w w') : OwnCols w' base v cs := by
  refine ⟨h.1, ?_⟩
  rcases h.2 with h0 | ⟨g, cap, cur, hv, hg, hh, hr⟩
  · exact .inl h0
  · exact .inr ⟨g, cap, cur, hv, hg, (hb.block g (lt_of_block hh)).trans hh, hr⟩
theorem OwnCols.nil (w : World) (base : Nat) : OwnCols w base (.slice none 0 0) [] := World.ownsRow_nil _ _ _ _
theorem OwnCols.empty (w : World) : OwnCols (w.alloc (.cells #[] 44)) w.heap.size (.slice (some ⟨w.heap.size, 0, none⟩) 0 0) [] :=
  ⟨rfl, .inr ⟨w.heap.size, 0, #[], rfl, Nat.le_refl _, heap_alloc_new w _, Nat.le_refl _, by unfold maxLen; omega, rfl, rfl⟩⟩
theorem OwnCols.clip {w : World} {base : Nat} {A : Option Addr} {n c : Nat} {cs : List Col} (h : OwnCols w base (.slice A n c) cs) : n = cs.length ∧ n ≤ c := by
  rcases h.2 with ⟨hv, hn⟩ | ⟨g, cap, cur, hv, hg, hh, hle, hm, hs, ht⟩
  · injection hv with _ e1 e2; omega
  · injection hv with _ e1 e2; omega
theorem own_form {w : World} {base : Nat} {e : TypeId} {size : Nat} {v : Value} {n : Nat} {xs : List Value} (h : w.ownsRow base e size v n xs) : ∃ A c, v = .slice A n c ∧ n ≤ c := by
  rcases h.2 with ⟨rfl, rfl⟩ | ⟨g, cap, cur, rfl, hg, hh, hle, _⟩
  · exact ⟨none, 0, rfl, Nat.le_refl _⟩
  · exact ⟨_, _, rfl, hle⟩
theorem OwnCols.mono {w : World} {base base' : Nat} {v : Value} {cs : List Col} (h : OwnCols w base v cs) (hb : base' ≤ base) : OwnCols w base' v cs := by
  refine ⟨h.1, ?_⟩
  rcases h.2 with h0 | ⟨g, cap, cur, hv, hg, hr⟩
  · exact .inl h0
  · exact .inr ⟨g, cap, cur, hv, by omega, hr⟩
theorem info_col : (Tryd.prog.info? 44).map (fun i => (i.zero, i.size, i.bytes)) = some (some (.agg #[.int .i64 0, .int .i64 0, .int .i64 0, .int .i64 0, .int .i64 0]), 5, 40) := by kernel_rfl
/-- a column of the call's own that has just been laid -/
theorem col_news (W : World) (a b i d o : Int) : ∀ j u, [Value.int .i64 a, .int .i64 b, .int .i64 i, .int .i64 d, .int .i64 o][j]? = some u →
    (W.alloc (.cells #[.int .i64 a, .int .i64 b, .int .i64 i, .int .i64 d, .int .i64 o] 44)).cell? ((⟨W.heap.size, 0, none⟩ : Addr).add j) = some u :=
  World.news_of_block (cs := #[.int .i64 a, .int .i64 b, .int .i64 i, .int .i64 d, .int .i64 o]) (t := 44) (fr := (0, 0)) (heap_alloc_new W _)
theorem col_one (a b i d o : Int) : ∀ u ∈ [Value.int .i64 a, .int .i64 b, .int .i64 i, .int .i64 d, .int .i64 o], u.oneCell' = true := by
  intro u hu; simp at hu; rcases hu with rfl | rfl | rfl | rfl | rfl <;> rfl
/-- an append onto an owned row, said of the frame -/
theorem below_append {B : Nat} {w wr w1 : World} {v : Value} {e : TypeId} {size n : Nat} {xs : List Value} (hb : Below B w wr) (hown : wr.ownsRow B e size v n xs) (hg : wr.grownBy w1 v.ownBlock) (hB : B ≤ wr.heap.size) : Below B w w1 :=
  hb.grown hg hB (fun k hk => (hown.lt k hk).1)
end Go.Proofs.YtpnondeaiinccaaDoor
