/- Walks of the laws' own helpers on columns: szColumnS, toColumn, toColumnS, eqColumn, eqColumnS. -/
import Derived.Test.YthddidjdgbdlbaaDoorCol1
import Derived.Test.YthddidjdgbdlbaaDoorView
import Derived.LoopTactic
import Derived.Deep.RegionHeld3
import Derived.Laws.MakeOwn
namespace Go.Proofs.YthddidjdgbdlbaaDoor
open Go.RowKit
theorem IsCols.below {w w' : World} {a : Option Addr} {len cap : Nat} {cs : List Col} (h : IsCols w a len cap cs) (hb : Below w.heap.size w w') : IsCols w' a len cap cs := by
  obtain ⟨h1, h2, h3, h4⟩ := h
  refine ⟨h1, h2, h3, fun hne => ?_⟩
  obtain ⟨b, off, ha, hbl, hc⟩ := h4 hne
  have := hb.size
  refine ⟨b, off, ha, by omega, fun k c hk => ?_⟩
  obtain ⟨g0, g1, g2, g3, g4⟩ := hc k c hk
  exact ⟨(hb.cell (p := ⟨b, _, none⟩) hbl).trans g0, (hb.cell (p := ⟨b, _, none⟩) hbl).trans g1, (hb.cell (p := ⟨b, _, none⟩) hbl).trans g2, (hb.cell (p := ⟨b, _, none⟩) hbl).trans g3, (hb.cell (p := ⟨b, _, none⟩) hbl).trans g4⟩
theorem Col.val_eq (c : Col) : c.v = .agg #[.int .i64 c.a, .int .i64 c.b, .int .i64 c.i, .int .i64 c.d, .int .i64 c.o] := rfl
def szI (left : Int) (n : Nat) : Int := if left - n < 0 then -1 else left - n
theorem szI_big {n : Nat} (h : 1048576 < n) : szI 1048576 n < 0 := by unfold szI; rw [if_pos (by omega)]; omega
theorem szI_fits {n : Nat} (h : n ≤ 1048576) : 0 ≤ szI 1048576 n := by unfold szI; rw [if_neg (by omega)]; omega
theorem szI_neg {left : Int} {n : Nat} (h : left - n < 0) : szI left n = -1 := by simp [szI, h]
theorem szI_pos {left : Int} {n : Nat} (h : ¬ left - n < 0) : szI left n = left - n := by unfold szI; rw [if_neg h]
theorem info_impl : (Tryd.prog.info? 67).map (fun i => (i.zero, i.size, i.bytes)) = some (some (.agg #[.int .i64 0, .int .i64 0, .int .i64 0, .int .i64 0, .int .i64 0]), 5, 40) := by kernel_rfl
theorem run_make_rowN {P : Program} (t e : TypeId) (i : TypeInfo) (z : Value) (ht : P.underlying t = some (.slice e)) (hi : P.info? e = some i) (hz : i.zero = some z)
    (kl kc : IntKind) (n c : Nat) (hnc : n ≤ c) (hbytes : i.bytes * c ≤ 281474976710656) (h63 : c ≤ 9223372036854775807) (w : World) :
    (Instr.makeSlice t (.int kl (n : Int)) (.int kc (c : Int))).run P w = .ok (.slice (some ⟨w.heap.size, 0, none⟩) n c) (w.alloc (.cells (madeCells z.cells (c * i.size)) e)) := by
  have hb : (i.bytes : Int) * (c : Int) ≤ 281474976710656 := by
    have h : ((i.bytes * c : Nat) : Int) ≤ 281474976710656 := by omega
    rwa [Int.natCast_mul] at h
  have hr := run_make (P := P) w t e i z ht hi hz kl kc n c (by omega) (by omega) hb (by omega)
  simp only [Int.toNat_natCast] at hr
  exact hr
theorem arr_some {a : Array Value} {j : Nat} (h : j < a.size) : ∃ v, a[j]? = some v := ⟨_, Array.getElem?_eq_getElem h⟩
theorem l_sz (a : Option Addr) (n c : Nat) (left : Int) (w : World) (h : n ≤ maxLen) (h1 : 0 ≤ left) (h2 : left ≤ 1048576) :
    Calls Tryd.prog 38 #[.slice a n c, .int .i64 left] w fun e w' => e = .returned (.int .i64 (szI left n)) ∧ w = w' := by
  unfold maxLen at h
  by_cases hl : left - n < 0
  · have H := Lib.hid (szI_neg hl)
    go_enter Tryd.func38, Tryd.ntmps38
    go_wp2
    go_ret
    exact ⟨ret_int H.out.symm, rfl⟩
  · have H := Lib.hid (szI_pos hl)
    go_enter Tryd.func38, Tryd.ntmps38
    go_wp2
    go_ret
    exact ⟨ret_int H.out.symm, rfl⟩
set_option maxHeartbeats 800000 in
theorem l_toColumn (c : Col) (w : World) :
    Calls Tryd.prog 69 #[c.v] w fun e w' => e = .returned c.v ∧ Below w.heap.size w w' := by
  rw [Col.val_eq]
  go_enter Tryd.func69, Tryd.ntmps69
  go_wp2
  exact bodyPost_ret (v := .agg #[.int .i64 c.a, .int .i64 c.b, .int .i64 c.i, .int .i64 c.d, .int .i64 c.o]) (by simp [results, Tryd.results69, go_sem]) rfl
    ⟨rfl, (((Below.refl _ _).alloc (Nat.le_refl _) _).alloc (by simp) _).alloc (by simp; omega) _⟩
set_option maxHeartbeats 3200000 in
theorem l_toColumnS (a : Option Addr) (len cap : Nat) (cs : List Col) (w : World) (hv : IsCols w a len cap cs) (hl : len ≤ 1048576) :
    Calls Tryd.prog 40 #[.slice a len cap] w fun e w' => ∃ v, e = .returned v ∧ Cols w' w'.heap.size v cs ∧ Below w.heap.size w w' := by
  obtain ⟨hlen, _, _, hne⟩ := hv
  obtain rfl : len = cs.length := hlen.symm
  obtain ⟨i0, hi0, hz0, hz1, hz2⟩ := info_parts info_impl
  have hmk : ∀ W : World, (Instr.makeSlice 40 (.int .i64 (cs.length : Int)) (.int .i64 (cs.length : Int))).run Tryd.prog W = .ok (.slice (some ⟨W.heap.size, 0, none⟩) cs.length cs.length) (W.alloc (.cells (madeCells (Value.cells (.agg #[.int .i64 0, .int .i64 0, .int .i64 0, .int .i64 0, .int .i64 0])) (cs.length * i0.size)) 67)) :=
    fun W => run_make_rowN 40 67 i0 _ Tryd.underlying40 hi0 hz0 .i64 .i64 cs.length cs.length (Nat.le_refl _) (by rw [hz2]; omega) (by omega) W
  have HB := Lib.hid (Blk.new w 67 (madeCells (Value.cells (.agg #[.int .i64 0, .int .i64 0, .int .i64 0, .int .i64 0, .int .i64 0])) (cs.length * i0.size)))
  have HS := Lib.hid (show (madeCells (Value.cells (.agg #[.int .i64 0, .int .i64 0, .int .i64 0, .int .i64 0, .int .i64 0])) (cs.length * i0.size)).size = cs.length * 5 by rw [size_madeCells, hz1])
  have HNE := Lib.hid hne
  clear hne hlen hi0 hz0 hz1 hz2
  go_enter Tryd.func40, Tryd.ntmps40
  go_wp2
  go_loopw [4] (fun i wr => ∃ (k : Nat) (arr : Array Value), k ≤ cs.length ∧ i = .int .i64 k ∧ Blk wr w.heap.size 67 arr ∧ ArrCols arr cs k ∧ Below w.heap.size w wr) (fun i _ => cs.length - (intOf i).toNat)
  case atStart => exact ⟨0, _, Nat.zero_le _, rfl, HB.out, ⟨HS.out, fun j _ hj => absurd hj (by omega)⟩, (Below.refl _ _).alloc (Nat.le_refl _) _⟩
  case round =>
    obtain ⟨k, arr, hk, rfl, hblk, harr, hb⟩ := hrel
    clear hmk
    have HBK := Lib.hid hblk
    have HAR := Lib.hid harr
    have hwr : w.heap.size < wr.heap.size := hblk.lt
    clear harr hblk
    by_cases hlt : k < cs.length
    · obtain ⟨c, hck⟩ : ∃ c, cs[k]? = some c := ⟨_, List.getElem?_eq_getElem hlt⟩
      obtain ⟨b, off, rfl, hbw, hcell⟩ := HNE.out (fun e => by rw [e] at hlt; simp at hlt)
      have HCK := Lib.hid hck
      obtain ⟨h0, h1, h2, h3, h4⟩ := hcell k c hck
      have g0 := (hb.cell (p := ⟨b, _, none⟩) hbw).trans h0
      have g1 := (hb.cell (p := ⟨b, _, none⟩) hbw).trans h1
      have g2 := (hb.cell (p := ⟨b, _, none⟩) hbw).trans h2
      have g3 := (hb.cell (p := ⟨b, _, none⟩) hbw).trans h3
      have g4 := (hb.cell (p := ⟨b, _, none⟩) hbw).trans h4
      have hbr : b < wr.heap.size := by omega
      have hsz : arr.size = cs.length * 5 := HAR.out.1
      obtain ⟨v0, e0⟩ := arr_some (a := arr) (j := k * 5) (by omega)
      obtain ⟨v1, e1⟩ := arr_some (a := arr) (j := k * 5 + 1) (by omega)
      obtain ⟨v2, e2⟩ := arr_some (a := arr) (j := k * 5 + 2) (by omega)
      obtain ⟨v3, e3⟩ := arr_some (a := arr) (j := k * 5 + 3) (by omega)
      obtain ⟨v4, e4⟩ := arr_some (a := arr) (j := k * 5 + 4) (by omega)
      have o0 := (HBK.out.cell (k * 5)).trans e0
      have o1 := (HBK.out.cell (k * 5 + 1)).trans e1
      have o2 := (HBK.out.cell (k * 5 + 2)).trans e2
      have o3 := (HBK.out.cell (k * 5 + 3)).trans e3
      have o4 := (HBK.out.cell (k * 5 + 4)).trans e4
      have f0 := HBK.out.frozen (k * 5)
      have f1 := HBK.out.frozen (k * 5 + 1)
      have f2 := HBK.out.frozen (k * 5 + 2)
      have f3 := HBK.out.frozen (k * 5 + 3)
      have f4 := HBK.out.frozen (k * 5 + 4)
      clear hck h0 h1 h2 h3 h4 e0 e1 e2 e3 e4 hsz hcell
      go_wp2_with (go_at_call 69; refine (l_toColumn c _).mono ?_; rintro e w1 ⟨he, hb1⟩; subst he; rw [Col.val_eq]; obtain ⟨hcc, hff⟩ := bcell hb1)
      have hb2 := hb.trans (hb1.mono hb.size)
      go_roundw
      case rel => exact ⟨k + 1, _, by omega, by go_num, (HBK.out.below hb1 hwr).setCol k c, HAR.out.succ HCK.out,
        ((((hb2.setCell (p := ⟨w.heap.size, _, none⟩) (Nat.le_refl _) _).setCell (p := ⟨w.heap.size, _, none⟩) (Nat.le_refl _) _).setCell (p := ⟨w.heap.size, _, none⟩) (Nat.le_refl _) _).setCell (p := ⟨w.heap.size, _, none⟩) (Nat.le_refl _) _).setCell (p := ⟨w.heap.size, _, none⟩) (Nat.le_refl _) _⟩
      case measure => simp [intOf]; omega
    · obtain rfl : k = cs.length := by omega
      go_wp2
      go_ret
      exact ⟨_, rfl, Cols.of_blk HBK.out HAR.out, hb⟩
set_option maxHeartbeats 800000 in
theorem l_eqColumn (c : Col) (w : World) :
    Calls Tryd.prog 72 #[c.v, c.v] w fun e w' => e = .returned (.bool true) ∧ Below w.heap.size w w' := by
  rw [Col.val_eq]
  go_enter Tryd.func72, Tryd.ntmps72
  go_wp2
  go_ret
  exact ⟨rfl, ((Below.refl _ _).alloc (Nat.le_refl _) _).alloc (by simp) _⟩
set_option maxHeartbeats 3200000 in
theorem l_eqColumnS (v u : Value) (cs : List Col) (w : World) (hv : Cols w w.heap.size v cs) (hu : Cols w w.heap.size u cs) (hl : cs.length ≤ 1048576) :
    Calls Tryd.prog 42 #[v, u] w fun e w' => e = .returned (.bool true) ∧ Below w.heap.size w w' := by
  obtain ⟨A, cap, rfl, hc⟩ := hv
  obtain ⟨A2, cap2, rfl, hc2⟩ := hu
  by_cases hne : cs = []
  · subst hne
    go_enter Tryd.func42, Tryd.ntmps42
    go_wp2
    go_loop [5] (fun i => i = .int .i64 0) (fun _ => 0)
    case atStart => rfl
    case round =>
      obtain rfl := hrel
      go_wp2
      go_ret
      exact ⟨rfl, Below.refl _ _⟩
  · obtain ⟨g, rfl, hg, hcell⟩ := hc hne
    obtain ⟨g', rfl, hg', hcell'⟩ := hc2 hne
    have HN := Lib.hid hcell
    have HN' := Lib.hid hcell'
    clear hcell hcell' hne hc hc2
    go_enter Tryd.func42, Tryd.ntmps42
    go_wp2
    go_loopw [5] (fun i wr => ∃ k : Nat, k ≤ cs.length ∧ i = .int .i64 k ∧ Below w.heap.size w wr) (fun i _ => cs.length - (intOf i).toNat)
    case atStart => exact ⟨0, Nat.zero_le _, rfl, Below.refl _ _⟩
    case round =>
      obtain ⟨k, hk, rfl, hb⟩ := hrel
      by_cases hlt : k < cs.length
      · obtain ⟨c, hck⟩ : ∃ c, cs[k]? = some c := ⟨_, List.getElem?_eq_getElem hlt⟩
        obtain ⟨h0, h1, h2, h3, h4⟩ := (HN.out k c hck).below hg hb
        obtain ⟨q0, q1, q2, q3, q4⟩ := (HN'.out k c hck).below hg' hb
        have hi1 : (k : Int) < (cs.length : Int) := by omega
        have hi0 : (0 : Int) ≤ (k : Int) := by omega
        clear hck
        go_wp2
        go_region_with (go_at_call 72; refine (l_eqColumn c _).mono ?_; rintro e w1 ⟨rfl, hb1⟩)
        all_goals
          go_wp2
          go_roundw
          case rel => exact ⟨k + 1, by omega, by go_num, hb.drew.trans (hb1.mono hb.size)⟩
          case measure => simp [intOf]; omega
      · obtain rfl : k = cs.length := by omega
        go_wp2
        go_ret
        exact ⟨rfl, hb⟩
end Go.Proofs.YthddidjdgbdlbaaDoor
