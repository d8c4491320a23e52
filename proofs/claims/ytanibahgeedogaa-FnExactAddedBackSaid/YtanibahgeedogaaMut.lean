/- Slices of columns that a law marks: rows that may be written; walks of markColumnS and heldColumnS. -/
import Derived.Test.YtanibahgeedogaaOwn
import Derived.Test.YtanibahgeedogaaCol1
import Derived.LoopTactic
namespace Go.Proofs.Ytanibahgeedogaa
open Go.RowKit
set_option linter.unusedVariables false
/-- the slice value v holds the columns cs in a block from base on that is whole and not frozen -/
def Mut (w : World) (base : Nat) (v : Value) (cs : List Col) : Prop :=
  ∃ A c, v = .slice A cs.length c ∧ (cs ≠ [] → ∃ g arr, A = some ⟨g, 0, none⟩ ∧ base ≤ g ∧ Blk w g 41 arr ∧ cs.length * 5 ≤ arr.size ∧ ∀ k c, cs[k]? = some c → ArrCol arr k c)
theorem OwnCols.mut {w : World} {base : Nat} {A : Option Addr} {n c : Nat} (c' : Nat) {cs : List Col} (h : OwnCols w base (.slice A n c) cs) : Mut w base (.slice A n c') cs := by
  rcases h.2 with ⟨hv, hn⟩ | ⟨g, cap, cur, hv, hg, hh, hle, hm, hs, ht⟩
  · have e : cs = [] := List.eq_nil_of_length_eq_zero hn
    injection hv with e1 e2 e3
    subst e
    exact ⟨A, c', by rw [e2]; rfl, fun hne => absurd rfl hne⟩
  · injection hv with e1 e2 e3
    refine ⟨A, c', by rw [e2], fun hne => ⟨g, cur, e1, hg, hh, ?_, fun k col hk => ?_⟩⟩
    · have := Nat.mul_le_mul_right 5 hle; omega
    · have hkl : k < cs.length := (List.getElem?_eq_some_iff.1 hk).1
      have at_ : ∀ j, j < 5 → cur[k * 5 + j]? = col.cells[j]? := fun j hj => by
        have e : cur[k * 5 + j]? = (flat cs)[k * 5 + j]? := by rw [← ht, List.getElem?_take, if_pos (by omega)]; simp
        rw [e, flat_get hk j hj]
      exact ⟨at_ 0 (by omega), at_ 1 (by omega), at_ 2 (by omega), at_ 3 (by omega), at_ 4 (by omega)⟩
theorem Mut.cols {w : World} {base : Nat} {v : Value} {cs : List Col} (h : Mut w base v cs) : Cols w w.heap.size v cs := by
  obtain ⟨A, c, hv, hc⟩ := h
  refine ⟨A, c, hv, fun hne => ?_⟩
  obtain ⟨g, arr, hA, _, hb, _, hcell⟩ := hc hne
  exact ⟨g, hA, hb.lt, fun k c hk => hb.colCells (hcell k c hk)⟩
theorem Mut.below {w w' : World} {base : Nat} {v : Value} {cs : List Col} (h : Mut w base v cs) (hb : Below w.heap.size w w') : Mut w' base v cs := by
  obtain ⟨A, c, hv, hc⟩ := h
  refine ⟨A, c, hv, fun hne => ?_⟩
  obtain ⟨g, arr, hA, hg, hbl, hs, hcell⟩ := hc hne
  exact ⟨g, arr, hA, hg, hbl.below hb hbl.lt, hs, hcell⟩
theorem Mut.mono {w : World} {base base' : Nat} {v : Value} {cs : List Col} (h : Mut w base v cs) (hb : base' ≤ base) : Mut w base' v cs := by
  obtain ⟨A, c, hv, hc⟩ := h
  refine ⟨A, c, hv, fun hne => ?_⟩
  obtain ⟨g, arr, hA, hg, hr⟩ := hc hne
  exact ⟨g, arr, hA, by omega, hr⟩
theorem setCol_same' {cs : Array Value} {k : Nat} {c : Col} (h : k * 5 + 5 ≤ cs.size) : ArrCol (setCol cs k c) k c := setCol_same (by omega)
theorem setCol_other' {cs : Array Value} {k j : Nat} {c c' : Col} (h : k * 5 + 5 ≤ cs.size) (hc : ArrCol cs j c') (hne : j ≠ k) : ArrCol (setCol cs k c) j c' := setCol_other (by omega) hc hne
/-- the numbers that a law writes into column k -/
def markCol (k : Nat) : Col := ⟨1 + 5 * (k : Int), 1 + 5 * (k : Int) + 1, 1 + 5 * (k : Int) + 1 + 1, 1 + 5 * (k : Int) + 1 + 1 + 1, 1 + 5 * (k : Int) + 1 + 1 + 1 + 1⟩
theorem arr_at {a : Array Value} {j : Nat} (h : j < a.size) : ∃ v, a[j]? = some v := ⟨_, Array.getElem?_eq_getElem h⟩
set_option maxHeartbeats 3200000 in
theorem l_mark (v : Value) (cs : List Col) (base : Nat) (w : World) (hv : Mut w base v cs) (hl : cs.length ≤ 1048576) :
    Calls Try.prog 19 #[v, .int .i64 1] w fun e w' => e = .returned (.int .i64 (1 + 5 * (cs.length : Int))) ∧ Mut w' base v (seqTo markCol cs.length) ∧ Below base w w' := by
  obtain ⟨A, cap, rfl, hc⟩ := hv
  by_cases hne : cs = []
  · subst hne
    go_enter Try.func19, Try.ntmps19
    go_wp2
    go_loop [1, 5] (fun k i => i = .int .i64 0 ∧ k = .int .i64 1) (fun _ _ => 0)
    case atStart => exact ⟨rfl, rfl⟩
    case round =>
      obtain ⟨rfl, rfl⟩ := hrel
      go_wp2
      go_ret
      exact ⟨rfl, ⟨A, cap, rfl, fun h => absurd rfl h⟩, Below.refl _ _⟩
  · obtain ⟨g, arr, rfl, hg, hblk, hsz, _⟩ := hc hne
    obtain ⟨n, hn⟩ : ∃ n, n = cs.length := ⟨_, rfl⟩
    rw [← hn] at hl hsz ⊢
    have HB := Lib.hid hblk
    clear hc hblk hne hn
    go_enter Try.func19, Try.ntmps19
    go_wp2
    go_loopw [1, 5] (fun k i wr => ∃ (j : Nat) (a : Array Value), j ≤ n ∧ i = .int .i64 j ∧ k = .int .i64 (1 + 5 * (j : Int)) ∧ Blk wr g 41 a ∧ n * 5 ≤ a.size ∧ (∀ m, m < j → ArrCol a m (markCol m)) ∧ Below base w wr) (fun _ i _ => n - (intOf i).toNat)
    case atStart => exact ⟨0, arr, Nat.zero_le _, rfl, rfl, HB.out, hsz, fun m hm => absurd hm (by omega), Below.refl _ _⟩
    case round =>
      obtain ⟨j, a, hj, rfl, rfl, hb, hs, hup, hbw⟩ := hrel
      have HBK := Lib.hid hb
      have HU := Lib.hid hup
      clear hb hup
      by_cases hlt : j < n
      · obtain ⟨v0, e0⟩ := arr_at (a := a) (j := j * 5) (by omega)
        obtain ⟨v1, e1⟩ := arr_at (a := a) (j := j * 5 + 1) (by omega)
        obtain ⟨v2, e2⟩ := arr_at (a := a) (j := j * 5 + 2) (by omega)
        obtain ⟨v3, e3⟩ := arr_at (a := a) (j := j * 5 + 3) (by omega)
        obtain ⟨v4, e4⟩ := arr_at (a := a) (j := j * 5 + 4) (by omega)
        have o0 := (HBK.out.cell (j * 5)).trans e0
        have o1 := (HBK.out.cell (j * 5 + 1)).trans e1
        have o2 := (HBK.out.cell (j * 5 + 2)).trans e2
        have o3 := (HBK.out.cell (j * 5 + 3)).trans e3
        have o4 := (HBK.out.cell (j * 5 + 4)).trans e4
        have f0 := HBK.out.frozen (j * 5)
        have f1 := HBK.out.frozen (j * 5 + 1)
        have f2 := HBK.out.frozen (j * 5 + 2)
        have f3 := HBK.out.frozen (j * 5 + 3)
        have f4 := HBK.out.frozen (j * 5 + 4)
        have h5 : j * 5 + 5 ≤ a.size := by omega
        have H5 := Lib.hid h5
        clear e0 e1 e2 e3 e4 h5
        go_wp2
        go_roundw
        case rel => exact ⟨j + 1, _, by omega, by go_num, by go_num, HBK.out.setCol j (markCol j), by rw [setCol_size]; exact hs,
          fun m hm => if e : m = j then by subst e; exact setCol_same' H5.out else setCol_other' H5.out (HU.out m (by omega)) e,
          ((((hbw.setCell (p := ⟨g, _, none⟩) hg _).setCell (p := ⟨g, _, none⟩) hg _).setCell (p := ⟨g, _, none⟩) hg _).setCell (p := ⟨g, _, none⟩) hg _).setCell (p := ⟨g, _, none⟩) hg _⟩
        case measure => simp [intOf]; omega
      · obtain rfl : j = n := by omega
        go_wp2
        go_ret
        refine ⟨rfl, ⟨_, cap, by rw [seqTo_length], fun _ => ⟨g, a, rfl, hg, HBK.out, by rw [seqTo_length]; exact hs, fun k c hk => ?_⟩⟩, hbw⟩
        obtain ⟨hk1, rfl⟩ := seqTo_get_iff hk
        exact HU.out k hk1
set_option maxHeartbeats 3200000 in
theorem l_held (v : Value) (n base : Nat) (w : World) (hv : Mut w base v (seqTo markCol n)) (hl : n ≤ 1048576) :
    Calls Try.prog 20 #[v, .int .i64 1] w fun e w' => e = .returned (.int .i64 (1 + 5 * (n : Int))) ∧ w = w' := by
  obtain ⟨A, cap, rfl, hc⟩ := hv
  rw [seqTo_length] at hc ⊢
  by_cases hne : n = 0
  · subst hne
    go_enter Try.func20, Try.ntmps20
    go_wp2
    go_loop [1, 5] (fun k i => i = .int .i64 0 ∧ k = .int .i64 1) (fun _ _ => 0)
    case atStart => exact ⟨rfl, rfl⟩
    case round =>
      obtain ⟨rfl, rfl⟩ := hrel
      go_wp2
      go_ret
      exact ⟨rfl, rfl⟩
  · obtain ⟨g, arr, rfl, hg, hblk, hsz, hcell⟩ := hc (fun e => hne (by have := congrArg List.length e; rwa [seqTo_length] at this))
    have HB := Lib.hid hblk
    have HC := Lib.hid hcell
    clear hc hblk hne hcell hsz
    go_enter Try.func20, Try.ntmps20
    go_wp2
    go_loop [1, 5] (fun k i => ∃ j : Nat, j ≤ n ∧ i = .int .i64 j ∧ k = .int .i64 (1 + 5 * (j : Int))) (fun _ i => n - (intOf i).toNat)
    case atStart => exact ⟨0, Nat.zero_le _, rfl, rfl⟩
    case round =>
      obtain ⟨j, hj, rfl, rfl⟩ := hrel
      by_cases hlt : j < n
      · obtain ⟨h0, h1, h2, h3, h4⟩ := HB.out.colCells (HC.out j _ (seqTo_get hlt))
        simp only [markCol] at h0 h1 h2 h3 h4
        go_wp2
        go_round
        case rel => exact ⟨j + 1, by omega, by go_num, by go_num⟩
        case measure => simp [intOf]; omega
      · obtain rfl : j = n := by omega
        go_wp2
        go_ret
        exact ⟨rfl, rfl⟩
end Go.Proofs.Ytanibahgeedogaa
