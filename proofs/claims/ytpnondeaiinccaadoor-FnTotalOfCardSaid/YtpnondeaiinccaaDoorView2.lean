/- What an argument that is a slice of bytes or of texts reads as. -/
import Derived.Test.YtpnondeaiinccaaDoorView
namespace Go.Proofs.YtpnondeaiinccaaDoor
open Go.RowKit Go.ChangeShapes Go.WideShapes Go.Deep
set_option linter.unusedVariables false
section
variable {H : Type} {enc : TypeId × Value → H} {P : Program} {w : World} {base : Nat} {spare : Nat → Bool} {held : Bool}
/-- a slice of elements of one cell each -/
theorem open_slice_ones {t e : TypeId} {fuel : Nat} {cs : List Value} {x : DataW H × List MemPlace} (ht : P.underlying t = some (.slice e)) (hC : P.cellsOf e = 1)
    (h : DataW.trod enc P w base spare held fuel t cs = some x) :
    cs = [.slice none 0 0] ∨ ∃ (a : Addr) (len cap : Nat), cs = [.slice (some a) len cap] ∧ len ≤ cap ∧ cap ≤ maxLen ∧
      ∀ i, i < len → ∃ (v : Value) (n : Nat) (y : DataW H × List MemPlace), w.cell? (a.add i) = some v ∧ DataW.trod enc P w base spare held n e [v] = some y := by
  rcases open_slice ht h with h0 | ⟨a, len, cap, m, n, D, Pl, hcs, hb, hl, hm, hmm, hx, hi⟩
  · exact .inl h0.1
  · refine .inr ⟨a, len, cap, hcs, hl, hm, fun i hil => ?_⟩
    obtain ⟨cs', hc, ht'⟩ := hi i (by rw [hmm]; split <;> omega)
    rw [hC] at hc
    obtain ⟨_, hcl, hat⟩ := World.cells?_some hc
    have h1 := hat 0 (by omega)
    match cs', hcl with
    | [v], _ =>
      rw [Go.Deep.add_add] at h1
      exact ⟨v, n, _, by simpa using h1, ht'⟩
end
/-- the slice that came in reads as the texts zs -/
def IsStrs (w : World) (a : Option Addr) (len _cap : Nat) (zs : List ByteArray) : Prop :=
  zs.length = len ∧ len ≤ maxLen ∧ (∀ (k : Nat) (z : ByteArray), zs[k]? = some z → z.size ≤ maxLen) ∧
  (zs ≠ [] → ∃ b off, a = some ⟨b, off, none⟩ ∧ b < w.heap.size ∧ ∀ (k : Nat) (z : ByteArray), zs[k]? = some z → w.cell? ⟨b, off + k, none⟩ = some (.string z))
/-- the slice that came in reads as the bytes zs -/
def IsBytes (w : World) (a : Option Addr) (len cap : Nat) (zs : List Int) : Prop :=
  (len ≤ cap ∧ cap ≤ maxLen) ∧ zs.length = len ∧ len ≤ maxLen ∧ (∀ (k : Nat) (z : Int), zs[k]? = some z → 0 ≤ z ∧ z ≤ 255) ∧
  (zs ≠ [] → ∃ b off, a = some ⟨b, off, none⟩ ∧ b < w.heap.size ∧ ∀ (k : Nat) (z : Int), zs[k]? = some z → w.cell? ⟨b, off + k, none⟩ = some (.int .u8 z))
theorem pick_any {α : Type} (d : α) {m : Nat} {R : Nat → α → Prop} (h : ∀ i, i < m → ∃ c, R i c) : ∃ f : Nat → α, ∀ i, i < m → R i (f i) :=
  ⟨fun i => if hi : i < m then (h i hi).choose else d, fun i hi => by simp only [dif_pos hi]; exact (h i hi).choose_spec⟩
theorem get_range {α : Type} {f : Nat → α} {len k : Nat} {c : α} (hk : ((List.range len).map f)[k]? = some c) : k < len ∧ f k = c := by
  rw [List.getElem?_map] at hk
  by_cases hkl : k < len
  · rw [List.getElem?_range hkl] at hk
    simp at hk
    exact ⟨hkl, hk⟩
  · rw [List.getElem?_eq_none (by simp; omega)] at hk
    simp at hk
theorem ones_cells {α : Type} {w : World} {x : Addr} {len : Nat} {f : Nat → α} {V : α → Value} (hf : ∀ i, i < len → w.cell? (x.add i) = some (V (f i))) (hpos : 0 < len) :
    ∃ b off, some x = some ⟨b, off, none⟩ ∧ b < w.heap.size ∧ ∀ (k : Nat) (z : α), ((List.range len).map f)[k]? = some z → w.cell? ⟨b, off + k, none⟩ = some (V z) := by
  obtain ⟨b, off, spot⟩ := x
  have h0 := hf 0 hpos
  have hspot : spot = none := by simpa [Addr.add] using World.cell?_spot h0
  subst hspot
  have hbl : b < w.heap.size := by
    have := World.block_lt_of_cell? w _ h0
    simpa [Addr.add] using this
  refine ⟨b, off, rfl, hbl, fun k z hk => ?_⟩
  obtain ⟨hkl, rfl⟩ := get_range hk
  have ha : (⟨b, off, none⟩ : Addr).add k = ⟨b, off + k, none⟩ := by
    unfold Addr.add; by_cases hj : k = 0 <;> simp [hj]
  rw [← ha]; exact hf k hkl
theorem view_strs {H : Type} {enc : TypeId × Value → H} {w : World} {base : Nat} {spare : Nat → Bool} {held : Bool} {a : Option Addr} {len cap : Nat} {d : DataW H} {p : List MemPlace}
    (h : DataW.Trod enc Tryd.prog w base spare held 23 (.slice a len cap) d p) : ∃ zs, IsStrs w a len cap zs := by
  obtain ⟨fuel, hf⟩ := h
  rcases open_slice_ones Tryd.underlying23 (by kernel_rfl) hf with hcs | ⟨x, l, c, hcs, hl, hm, hi⟩
  · simp [Value.cells] at hcs
    obtain ⟨rfl, rfl, rfl⟩ := hcs
    exact ⟨[], rfl, by unfold maxLen; omega, fun k c hk => by simp at hk, fun hne => absurd rfl hne⟩
  · simp [Value.cells] at hcs
    obtain ⟨rfl, rfl, rfl⟩ := hcs
    have key : ∀ i, i < len → ∃ z : ByteArray, z.size ≤ maxLen ∧ w.cell? (x.add i) = some (.string z) := fun i him => by
      obtain ⟨v, n, y, hc, ht⟩ := hi i him
      obtain ⟨s, e, _, hs⟩ := DataW.trod_string Tryd.underlying9 ht
      simp at e
      subst e
      exact ⟨s, hs, hc⟩
    obtain ⟨f, hfn⟩ := pick_any ByteArray.empty key
    refine ⟨(List.range len).map f, by simp, by omega, fun k z hk => ?_, fun hne => ?_⟩
    · obtain ⟨hkl, rfl⟩ := get_range hk
      exact (hfn k hkl).1
    · exact ones_cells (V := Value.string) (fun i hil => (hfn i hil).2) (by
        rcases Nat.eq_zero_or_pos len with h0 | h0
        · subst h0; simp at hne
        · exact h0)
theorem view_bytes {H : Type} {enc : TypeId × Value → H} {w : World} {base : Nat} {spare : Nat → Bool} {held : Bool} {a : Option Addr} {len cap : Nat} {d : DataW H} {p : List MemPlace}
    (h : DataW.Trod enc Tryd.prog w base spare held 22 (.slice a len cap) d p) : ∃ zs, IsBytes w a len cap zs := by
  obtain ⟨fuel, hf⟩ := h
  rcases open_slice_ones Tryd.underlying22 (by kernel_rfl) hf with hcs | ⟨x, l, c, hcs, hl, hm, hi⟩
  · simp [Value.cells] at hcs
    obtain ⟨rfl, rfl, rfl⟩ := hcs
    exact ⟨[], ⟨by omega, by unfold maxLen; omega⟩, rfl, by unfold maxLen; omega, fun k c hk => by simp at hk, fun hne => absurd rfl hne⟩
  · simp [Value.cells] at hcs
    obtain ⟨rfl, rfl, rfl⟩ := hcs
    have key : ∀ i, i < len → ∃ z : Int, (0 ≤ z ∧ z ≤ 255) ∧ w.cell? (x.add i) = some (.int .u8 z) := fun i him => by
      obtain ⟨v, n, y, hc, ht⟩ := hi i him
      obtain ⟨z, e, _, hz⟩ := DataW.trod_int Tryd.underlying5 ht
      simp at e
      subst e
      refine ⟨z, ?_, hc⟩
      simpa [Lit.wf, IntKind.min, IntKind.max, IntKind.signed, IntKind.bits] using hz
    obtain ⟨f, hfn⟩ := pick_any (0 : Int) key
    refine ⟨(List.range len).map f, ⟨hl, hm⟩, by simp, by omega, fun k z hk => ?_, fun hne => ?_⟩
    · obtain ⟨hkl, rfl⟩ := get_range hk
      exact (hfn k hkl).1
    · exact ones_cells (V := Value.int .u8) (fun i hil => (hfn i hil).2) (by
        rcases Nat.eq_zero_or_pos len with h0 | h0
        · subst h0; simp at hne
        · exact h0)
end Go.Proofs.YtpnondeaiinccaaDoor
