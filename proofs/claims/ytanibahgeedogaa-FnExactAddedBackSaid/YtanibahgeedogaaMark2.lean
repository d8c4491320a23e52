/- Marks of one slice, said so that all other slices are left; copies that may be written. -/
import Derived.Test.YtanibahgeedogaaBack2
namespace Go.Proofs.Ytanibahgeedogaa
open Go.RowKit
set_option linter.unusedVariables false
/-- the one block g may have been written -/
structure Far (g : Nat) (w w' : World) : Prop where
  os : w'.os = w.os
  tape : w'.tape = w.tape
  output : w'.output = w.output
  size : w'.heap.size = w.heap.size
  block : ∀ b, b ≠ g → w'.heap[b]? = w.heap[b]?
theorem Far.refl (g : Nat) (w : World) : Far g w w := ⟨rfl, rfl, rfl, rfl, fun _ _ => rfl⟩
theorem Far.set_ {g : Nat} {w w' : World} (h : Far g w w') (j : Nat) (u : Value) : Far g w (w'.setCell ⟨g, j, none⟩ u) :=
  ⟨h.os, h.tape, h.output, by rw [← h.size]; simp [World.setCell], fun b hb => (Below.heap_setCell w' ⟨g, j, none⟩ u b hb).trans (h.block b hb)⟩
theorem Far.below {g base : Nat} {w w' : World} (h : Far g w w') (hg : base ≤ g) : Below base w w' := ⟨h.os, h.tape, h.output, Nat.le_of_eq h.size.symm, fun k hk => h.block k (by omega)⟩
theorem Mut.far {g base : Nat} {w w' : World} {v : Value} {cs : List Col} (h : Mut w base v cs) (hf : Far g w w') (hg : g < base) : Mut w' base v cs := by
  obtain ⟨A, c, hv, hc⟩ := h
  refine ⟨A, c, hv, fun hne => ?_⟩
  obtain ⟨g', arr, hA, hg', hbl, hs, hcell⟩ := hc hne
  exact ⟨g', arr, hA, hg', (hf.block g' (by omega)).trans hbl, hs, hcell⟩
theorem Mut.lt {base : Nat} {w : World} {v : Value} {cs : List Col} (h : Mut w base v cs) : ∀ g n c, v = .slice (some ⟨g, 0, none⟩) n c → cs ≠ [] → g < w.heap.size := by
  intro g n c hv hne
  obtain ⟨A, c', hv', hc⟩ := h
  obtain ⟨g', arr, hA, hg', hbl, _⟩ := hc hne
  subst hA
  rw [hv] at hv'
  injection hv' with e1 _ _
  have e2 := Option.some.inj e1
  have e3 : g = g' := congrArg Addr.block e2
  rw [e3]; exact hbl.lt
set_option maxHeartbeats 3200000 in
theorem l_toColumnM (a : Option Addr) (len cap : Nat) (cs : List Col) (w : World) (hv : IsCols w a len cap cs) (hl : len ≤ 1048576) :
    Calls Try.prog 14 #[.slice a len cap] w fun e w' => ∃ v, e = .returned v ∧ Mut w' w.heap.size v cs ∧ Below w.heap.size w w' := by
  obtain ⟨hlen, _, _, hne⟩ := hv
  obtain rfl : len = cs.length := hlen.symm
  obtain ⟨i0, hi0, hz0, hz1, hz2⟩ := info_parts info_impl
  have hmk : ∀ W : World, (Instr.makeSlice 26 (.int .i64 (cs.length : Int)) (.int .i64 (cs.length : Int))).run Try.prog W = .ok (.slice (some ⟨W.heap.size, 0, none⟩) cs.length cs.length) (W.alloc (.cells (madeCells (Value.cells (.agg #[.int .i64 0, .int .i64 0, .int .i64 0, .int .i64 0, .int .i64 0])) (cs.length * i0.size)) 41)) :=
    fun W => run_make_rowN 26 41 i0 _ Try.underlying26 hi0 hz0 .i64 .i64 cs.length cs.length (Nat.le_refl _) (by rw [hz2]; omega) (by omega) W
  have HB := Lib.hid (Blk.new w 41 (madeCells (Value.cells (.agg #[.int .i64 0, .int .i64 0, .int .i64 0, .int .i64 0, .int .i64 0])) (cs.length * i0.size)))
  have HS := Lib.hid (show (madeCells (Value.cells (.agg #[.int .i64 0, .int .i64 0, .int .i64 0, .int .i64 0, .int .i64 0])) (cs.length * i0.size)).size = cs.length * 5 by rw [size_madeCells, hz1])
  have HNE := Lib.hid hne
  clear hne hlen hi0 hz0 hz1 hz2
  go_enter Try.func14, Try.ntmps14
  go_wp2
  go_loopw [4] (fun i wr => ∃ (k : Nat) (arr : Array Value), k ≤ cs.length ∧ i = .int .i64 k ∧ Blk wr w.heap.size 41 arr ∧ ArrCols arr cs k ∧ Below w.heap.size w wr) (fun i _ => cs.length - (intOf i).toNat)
  case atStart => exact ⟨0, _, Nat.zero_le _, rfl, HB.out, ⟨HS.out, fun j _ hj => absurd hj (by omega)⟩, (Below.refl _ _).alloc (Nat.le_refl _) _⟩
  case round =>
    obtain ⟨k, arr, hk, rfl, hblk, harr, hb⟩ := hrel
    clear hmk
    have HBK := Lib.hid hblk
    have HAR := Lib.hid harr
    have hwr : w.heap.size < wr.heap.size := hblk.lt
    clear harr hblk
    by_cases hlt : k < cs.length
    · obtain ⟨c, hck⟩ : ∃ c, cs[k]? = some c := ⟨_, List.getElem?_eq_getElem hlt⟩
      obtain ⟨b, off, rfl, hbw, hcell⟩ := HNE.out (fun e => by rw [e] at hlt; simp at hlt)
      have HCK := Lib.hid hck
      obtain ⟨h0, h1, h2, h3, h4⟩ := hcell k c hck
      have g0 := (hb.cell (p := ⟨b, _, none⟩) hbw).trans h0
      have g1 := (hb.cell (p := ⟨b, _, none⟩) hbw).trans h1
      have g2 := (hb.cell (p := ⟨b, _, none⟩) hbw).trans h2
      have g3 := (hb.cell (p := ⟨b, _, none⟩) hbw).trans h3
      have g4 := (hb.cell (p := ⟨b, _, none⟩) hbw).trans h4
      have hbr : b < wr.heap.size := by omega
      have hsz : arr.size = cs.length * 5 := HAR.out.1
      obtain ⟨v0, e0⟩ := arr_some (a := arr) (j := k * 5) (by omega)
      obtain ⟨v1, e1⟩ := arr_some (a := arr) (j := k * 5 + 1) (by omega)
      obtain ⟨v2, e2⟩ := arr_some (a := arr) (j := k * 5 + 2) (by omega)
      obtain ⟨v3, e3⟩ := arr_some (a := arr) (j := k * 5 + 3) (by omega)
      obtain ⟨v4, e4⟩ := arr_some (a := arr) (j := k * 5 + 4) (by omega)
      have o0 := (HBK.out.cell (k * 5)).trans e0
      have o1 := (HBK.out.cell (k * 5 + 1)).trans e1
      have o2 := (HBK.out.cell (k * 5 + 2)).trans e2
      have o3 := (HBK.out.cell (k * 5 + 3)).trans e3
      have o4 := (HBK.out.cell (k * 5 + 4)).trans e4
      have f0 := HBK.out.frozen (k * 5)
      have f1 := HBK.out.frozen (k * 5 + 1)
      have f2 := HBK.out.frozen (k * 5 + 2)
      have f3 := HBK.out.frozen (k * 5 + 3)
      have f4 := HBK.out.frozen (k * 5 + 4)
      clear hck h0 h1 h2 h3 h4 e0 e1 e2 e3 e4 hsz hcell
      go_wp2_with (go_at_call 36; refine (l_toColumn c _).mono ?_; rintro e w1 ⟨he, hb1⟩; subst he; rw [Col.val_eq]; obtain ⟨hcc, hff⟩ := bcell hb1)
      have hb2 := hb.trans (hb1.mono hb.size)
      go_roundw
      case rel => exact ⟨k + 1, _, by omega, by go_num, (HBK.out.below hb1 hwr).setCol k c, HAR.out.succ HCK.out,
        ((((hb2.setCell (p := ⟨w.heap.size, _, none⟩) (Nat.le_refl _) _).setCell (p := ⟨w.heap.size, _, none⟩) (Nat.le_refl _) _).setCell (p := ⟨w.heap.size, _, none⟩) (Nat.le_refl _) _).setCell (p := ⟨w.heap.size, _, none⟩) (Nat.le_refl _) _).setCell (p := ⟨w.heap.size, _, none⟩) (Nat.le_refl _) _⟩
      case measure => simp [intOf]; omega
    · obtain rfl : k = cs.length := by omega
      go_wp2
      go_ret
      exact ⟨_, rfl, Mut.of_blk (Nat.le_refl _) HBK.out HAR.out, hb⟩
set_option maxHeartbeats 3200000 in
theorem l_markB (v : Value) (cs : List Col) (base B : Nat) (w : World) (hv : Mut w base v cs) (hl : cs.length ≤ 1048576) (hB : ∀ g n c, v = .slice (some ⟨g, 0, none⟩) n c → cs ≠ [] → g < B) :
    Calls Try.prog 19 #[v, .int .i64 1] w fun e w' => e = .returned (.int .i64 (1 + 5 * (cs.length : Int))) ∧ Mut w' base v (seqTo markCol cs.length) ∧ (w' = w ∨ ∃ g, base ≤ g ∧ g < B ∧ Far g w w') := by
  obtain ⟨A, cap, rfl, hc⟩ := hv
  by_cases hne : cs = []
  · subst hne
    go_enter Try.func19, Try.ntmps19
    go_wp2
    go_loop [1, 5] (fun k i => i = .int .i64 0 ∧ k = .int .i64 1) (fun _ _ => 0)
    case atStart => exact ⟨rfl, rfl⟩
    case round =>
      obtain ⟨rfl, rfl⟩ := hrel
      go_wp2
      go_ret
      exact ⟨rfl, ⟨A, cap, rfl, fun h => absurd rfl h⟩, .inl rfl⟩
  · obtain ⟨g, arr, rfl, hg, hblk, hsz, _⟩ := hc hne
    have hgB := hB g cs.length cap rfl hne
    obtain ⟨n, hn⟩ : ∃ n, n = cs.length := ⟨_, rfl⟩
    rw [← hn] at hl hsz ⊢
    have HB := Lib.hid hblk
    clear hc hblk hne hn hB
    go_enter Try.func19, Try.ntmps19
    go_wp2
    go_loopw [1, 5] (fun k i wr => ∃ (j : Nat) (a : Array Value), j ≤ n ∧ i = .int .i64 j ∧ k = .int .i64 (1 + 5 * (j : Int)) ∧ Blk wr g 41 a ∧ n * 5 ≤ a.size ∧ (∀ m, m < j → ArrCol a m (markCol m)) ∧ Far g w wr) (fun _ i _ => n - (intOf i).toNat)
    case atStart => exact ⟨0, arr, Nat.zero_le _, rfl, rfl, HB.out, hsz, fun m hm => absurd hm (by omega), Far.refl _ _⟩
    case round =>
      obtain ⟨j, a, hj, rfl, rfl, hb, hs, hup, hbw⟩ := hrel
      have HBK := Lib.hid hb
      have HU := Lib.hid hup
      clear hb hup
      by_cases hlt : j < n
      · obtain ⟨v0, e0⟩ := arr_at (a := a) (j := j * 5) (by omega)
        obtain ⟨v1, e1⟩ := arr_at (a := a) (j := j * 5 + 1) (by omega)
        obtain ⟨v2, e2⟩ := arr_at (a := a) (j := j * 5 + 2) (by omega)
        obtain ⟨v3, e3⟩ := arr_at (a := a) (j := j * 5 + 3) (by omega)
        obtain ⟨v4, e4⟩ := arr_at (a := a) (j := j * 5 + 4) (by omega)
        have o0 := (HBK.out.cell (j * 5)).trans e0
        have o1 := (HBK.out.cell (j * 5 + 1)).trans e1
        have o2 := (HBK.out.cell (j * 5 + 2)).trans e2
        have o3 := (HBK.out.cell (j * 5 + 3)).trans e3
        have o4 := (HBK.out.cell (j * 5 + 4)).trans e4
        have f0 := HBK.out.frozen (j * 5)
        have f1 := HBK.out.frozen (j * 5 + 1)
        have f2 := HBK.out.frozen (j * 5 + 2)
        have f3 := HBK.out.frozen (j * 5 + 3)
        have f4 := HBK.out.frozen (j * 5 + 4)
        have h5 : j * 5 + 5 ≤ a.size := by omega
        have H5 := Lib.hid h5
        clear e0 e1 e2 e3 e4 h5
        go_wp2
        go_roundw
        case rel => exact ⟨j + 1, _, by omega, by go_num, by go_num, HBK.out.setCol j (markCol j), by rw [setCol_size]; exact hs,
          fun m hm => if e : m = j then by subst e; exact setCol_same' H5.out else setCol_other' H5.out (HU.out m (by omega)) e,
          ((((hbw.set_ _ _).set_ _ _).set_ _ _).set_ _ _).set_ _ _⟩
        case measure => simp [intOf]; omega
      · obtain rfl : j = n := by omega
        go_wp2
        go_ret
        refine ⟨rfl, ⟨_, cap, by rw [seqTo_length], fun _ => ⟨g, a, rfl, hg, HBK.out, by rw [seqTo_length]; exact hs, fun k c hk => ?_⟩⟩, .inr ⟨g, hg, hgB, hbw⟩⟩
        obtain ⟨hk1, rfl⟩ := seqTo_get_iff hk
        exact HU.out k hk1
end Go.Proofs.Ytanibahgeedogaa
