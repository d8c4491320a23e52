/- Walk of impl.AddedBack. -/
import Derived.Test.YtpnondeaiinccaaDoorBack
namespace Go.Proofs.YtpnondeaiinccaaDoor
open Go.RowKit
set_option linter.unusedVariables false
set_option maxRecDepth 100000
theorem back_get {cs : List Col} {k : Nat} {c : Col} (h : cs[k]? = some c) : (cs.map backCol)[k]? = some (backCol c) := by rw [List.getElem?_map, h]; rfl
theorem Mut.of_blk {w : World} {g base cap : Nat} {a : Array Value} {cs : List Col} (hg : base ≤ g) (h : Blk w g 44 a) (hc : ArrCols a cs cs.length) : Mut w base (.slice (some ⟨g, 0, none⟩) cs.length cap) cs :=
  ⟨_, _, rfl, fun _ => ⟨g, a, rfl, hg, h, Nat.le_of_eq hc.1.symm, fun k c hk => hc.2 k c (List.getElem?_eq_some_iff.1 hk).1 hk⟩⟩
set_option maxHeartbeats 3200000 in
theorem i_addedBack (v : Value) (cs : List Col) (w : World) (hv : Cols w w.heap.size v cs) (hl : cs.length ≤ 1048576) :
    Calls Tryd.prog 46 #[v] w fun e w' => ∃ u, e = .returned u ∧ Mut w' w.heap.size u (backL cs) ∧ Below w.heap.size w w' := by
  obtain ⟨A, cap, rfl, hc⟩ := id hv
  by_cases hw : wTake cs = -1
  · have HA := Lib.hid (backL_ok hw)
    have h9 := wTake_len hw
    have t1 : (wTake cs != -1) = false := by simp [hw]
    have HV := Lib.hid hv
    obtain ⟨i0, hi0, hz0, hz1, hz2⟩ := info_parts info_col
    have hmk : ∀ W : World, (Instr.makeSlice 33 (.int .i64 (cs.length : Int)) (.int .i64 (cs.length : Int))).run Tryd.prog W = .ok (.slice (some ⟨W.heap.size, 0, none⟩) cs.length cs.length) (W.alloc (.cells (madeCells (Value.cells (.agg #[.int .i64 0, .int .i64 0, .int .i64 0, .int .i64 0, .int .i64 0])) (cs.length * i0.size)) 44)) :=
      fun W => run_make_rowN 33 44 i0 _ Tryd.underlying33 hi0 hz0 .i64 .i64 cs.length cs.length (Nat.le_refl _) (by rw [hz2]; omega) (by omega) W
    have HB := Lib.hid fun W : World => Blk.new W 44 (madeCells (Value.cells (.agg #[.int .i64 0, .int .i64 0, .int .i64 0, .int .i64 0, .int .i64 0])) (cs.length * i0.size))
    have HS := Lib.hid (show (madeCells (Value.cells (.agg #[.int .i64 0, .int .i64 0, .int .i64 0, .int .i64 0, .int .i64 0])) (cs.length * i0.size)).size = (cs.map backCol).length * 5 by rw [size_madeCells, hz1, List.length_map])
    have HC := Lib.hid hc
    clear hw hv hc hi0 hz0 hz1 hz2
    go_enter Tryd.func46, Tryd.ntmps46
    go_wp2_with (go_at_call 39; refine (i_wrongTaken _ cs _ HV.out hl).mono ?_; rintro e w1 ⟨rfl, hb1⟩)
    go_loopw [4, 5, 14] (fun _ _ i wr => ∃ (k : Nat) (arr : Array Value), k ≤ cs.length ∧ i = .int .i64 k ∧ Blk wr w1.heap.size 44 arr ∧ ArrCols arr (cs.map backCol) k ∧ Below w.heap.size w wr) (fun _ _ i _ => cs.length - (intOf i).toNat)
    case atStart => exact ⟨0, _, Nat.zero_le _, rfl, HB.out _, ⟨HS.out, fun j _ hj => absurd hj (by omega)⟩, hb1.alloc hb1.size _⟩
    case round =>
      obtain ⟨k, arr, hk, rfl, hblk, harr, hb⟩ := hrel
      clear hmk
      have HBK := Lib.hid hblk
      have HAR := Lib.hid harr
      have hwr : w1.heap.size < wr.heap.size := hblk.lt
      have hw1 := hb1.size
      clear harr hblk
      by_cases hlt : k < cs.length
      · obtain ⟨c, hck⟩ := get_some hlt
        obtain ⟨g, rfl, hg, hcell⟩ := HC.out (fun e => by rw [e] at hlt; simp at hlt)
        have HCK := Lib.hid hck
        obtain ⟨h0, h1, h2, h3, h4⟩ := (hcell k c hck).below hg hb
        have hgr : g < wr.heap.size := by omega
        have hsz : arr.size = cs.length * 5 := by have := HAR.out.1; rwa [List.length_map] at this
        obtain ⟨v0, e0⟩ := arr_at' (a := arr) (j := k * 5) (by omega)
        obtain ⟨v1, e1⟩ := arr_at' (a := arr) (j := k * 5 + 1) (by omega)
        obtain ⟨v2, e2⟩ := arr_at' (a := arr) (j := k * 5 + 2) (by omega)
        obtain ⟨v3, e3⟩ := arr_at' (a := arr) (j := k * 5 + 3) (by omega)
        obtain ⟨v4, e4⟩ := arr_at' (a := arr) (j := k * 5 + 4) (by omega)
        have o0 := (HBK.out.cell (k * 5)).trans e0
        have o1 := (HBK.out.cell (k * 5 + 1)).trans e1
        have o2 := (HBK.out.cell (k * 5 + 2)).trans e2
        have o3 := (HBK.out.cell (k * 5 + 3)).trans e3
        have o4 := (HBK.out.cell (k * 5 + 4)).trans e4
        have f0 := HBK.out.frozen (k * 5)
        have f1 := HBK.out.frozen (k * 5 + 1)
        have f2 := HBK.out.frozen (k * 5 + 2)
        have f3 := HBK.out.frozen (k * 5 + 3)
        have f4 := HBK.out.frozen (k * 5 + 4)
        have hgne : g ≠ w1.heap.size := by omega
        clear hck e0 e1 e2 e3 e4 hsz hcell
        go_wp2
        go_roundw
        all_goals have HB5 := Lib.hid (((((hb.setCell (p := ⟨w1.heap.size, k * 5, none⟩) hw1 (.int .i64 c.d)).setCell (p := ⟨w1.heap.size, k * 5 + 1, none⟩) hw1 (.int .i64 c.b)).setCell (p := ⟨w1.heap.size, k * 5 + 2, none⟩) hw1 (.int .i64 c.i)).setCell (p := ⟨w1.heap.size, k * 5 + 3, none⟩) hw1 (.int .i64 c.a)).setCell (p := ⟨w1.heap.size, k * 5 + 4, none⟩) hw1 (.int .i64 c.o))
        case rel => exact ⟨k + 1, _, by omega, by go_num, (HBK.out.setCol k (backCol c)).alloc _, HAR.out.succ (back_get HCK.out), HB5.out.alloc HB5.out.size _⟩
        case measure => simp [intOf]; omega
      · obtain rfl : k = cs.length := by omega
        go_wp2
        go_ret
        refine ⟨_, rfl, ?_, hb⟩
        rw [HA.out]
        have hM := Mut.of_blk (cs := cs.map backCol) (cap := cs.length) hw1 HBK.out (by rw [List.length_map]; exact HAR.out)
        rw [List.length_map] at hM
        exact hM
  · have HA := Lib.hid (backL_no hw)
    have t1 : (wTake cs != -1) = true := by simp [hw]
    clear hw
    go_enter Tryd.func46, Tryd.ntmps46
    go_wp2_with (go_at_call 39; refine (i_wrongTaken _ cs _ hv hl).mono ?_; rintro e w1 ⟨rfl, hb1⟩)
    go_ret
    exact ⟨_, rfl, by rw [HA.out]; exact mut_nil _ _, hb1⟩
end Go.Proofs.YtpnondeaiinccaaDoor
