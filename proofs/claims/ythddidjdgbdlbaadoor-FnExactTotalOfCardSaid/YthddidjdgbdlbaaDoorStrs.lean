/- Walks of the laws' own helpers on texts: szStringS, toStringS, eqStringS. -/
import Derived.Test.YthddidjdgbdlbaaDoorTotal
import Derived.Test.YthddidjdgbdlbaaDoorView2
import Derived.Test.YthddidjdgbdlbaaDoorCopy
import Derived.Deep.QuietTactic
import Derived.BigQuiet
namespace Go.Proofs.YthddidjdgbdlbaaDoor
open Go.RowKit
set_option linter.unusedVariables false
set_option maxRecDepth 100000
theorem IsStrs.below {w w' : World} {a : Option Addr} {len cap : Nat} {zs : List ByteArray} (h : IsStrs w a len cap zs) (hb : Below w.heap.size w w') : IsStrs w' a len cap zs := by
  obtain ⟨h1, h2, h3, h4⟩ := h
  refine ⟨h1, h2, h3, fun hne => ?_⟩
  obtain ⟨b, off, ha, hbl, hc⟩ := h4 hne
  have := hb.size
  exact ⟨b, off, ha, by omega, fun k z hk => (hb.cell (p := ⟨b, _, none⟩) hbl).trans (hc k z hk)⟩
def SzPost (len : Nat) (w : World) (e : Ending) (w' : World) : Prop := ∃ n : Int, e = .returned (.int .i64 n) ∧ -1 ≤ n ∧ n ≤ 1048576 ∧ (0 ≤ n → len ≤ 1048576) ∧ w = w'
set_option maxHeartbeats 3200000 in
theorem l_szStrs (a : Option Addr) (len cap : Nat) (zs : List ByteArray) (w : World) (h : IsStrs w a len cap zs) :
    Calls Tryd.prog 47 #[.slice a len cap, .int .i64 1048576] w (SzPost len w) := by
  obtain ⟨hlen, hmax, hsz, hne⟩ := h
  obtain rfl : len = zs.length := hlen.symm
  have HS := Lib.hid hsz
  have HN := Lib.hid hne
  unfold maxLen at hmax
  clear hsz hne hlen
  by_cases hl : 1048576 < zs.length
  · go_enter Tryd.func47, Tryd.ntmps47
    go_wp2
    go_ret
    exact ⟨-1, rfl, by omega, by omega, by omega, rfl⟩
  · go_enter Tryd.func47, Tryd.ntmps47
    go_wp2
    go_loopw [1, 5] (fun m i wr => ∃ (k : Nat) (n : Int), k ≤ zs.length ∧ i = .int .i64 k ∧ m = .int .i64 n ∧ 0 ≤ n ∧ n ≤ 1048576 ∧ w = wr) (fun _ i _ => zs.length - (intOf i).toNat)
    case atStart => exact ⟨0, _, Nat.zero_le _, rfl, rfl, by omega, by omega, rfl⟩
    case round =>
      obtain ⟨k, n, hk, rfl, rfl, n0, n1, rfl⟩ := hrel
      by_cases hlt : k < zs.length
      · obtain ⟨b, off, rfl, hbw, hcell⟩ := HN.out (fun e => by rw [e] at hlt; simp at hlt)
        obtain ⟨z, hzk⟩ : ∃ z, zs[k]? = some z := ⟨_, List.getElem?_eq_getElem hlt⟩
        have hz := HS.out k z hzk
        have hc := hcell k z hzk
        unfold maxLen at hz
        clear hzk hcell
        by_cases hn : n - (z.size : Int) < 0
        · go_wp2
          go_ret
          exact ⟨-1, rfl, by omega, by omega, by omega, rfl⟩
        · go_wp2
          go_roundw
          case rel => exact ⟨k + 1, _, by omega, by go_num, rfl, by omega, by omega, trivial⟩
          case measure => simp [intOf]; omega
      · obtain rfl : k = zs.length := by omega
        go_wp2
        go_ret
        exact ⟨n, rfl, by omega, by omega, fun _ => by omega, rfl⟩
theorem info_str : (Tryd.prog.info? 9).map (fun i => (i.zero, i.size, i.bytes)) = some (some (.string ⟨#[]⟩), 1, 16) := by kernel_rfl
set_option maxHeartbeats 3200000 in
theorem l_toStrs (a : Option Addr) (len cap : Nat) (zs : List ByteArray) (w : World) (hv : IsStrs w a len cap zs) (hl : len ≤ 1048576) :
    Calls Tryd.prog 49 #[.slice a len cap] w fun e w' => ∃ v, e = .returned v ∧ Strs w' w'.heap.size v zs ∧ Below w.heap.size w w' := by
  obtain ⟨hlen, _, _, hne⟩ := hv
  obtain rfl : len = zs.length := hlen.symm
  obtain ⟨i0, hi0, hz0, hz1, hz2⟩ := info_parts info_str
  have hmk : ∀ W : World, (Instr.makeSlice 46 (.int .i64 (zs.length : Int)) (.int .i64 (zs.length : Int))).run Tryd.prog W = .ok (.slice (some ⟨W.heap.size, 0, none⟩) zs.length zs.length) (W.alloc (.cells (madeCells (Value.cells (.string ⟨#[]⟩)) (zs.length * i0.size)) 9)) :=
    fun W => run_make_rowN 46 9 i0 _ Tryd.underlying46 hi0 hz0 .i64 .i64 zs.length zs.length (Nat.le_refl _) (by rw [hz2]; omega) (by omega) W
  have HB := Lib.hid (Blk.new w 9 (madeCells (Value.cells (.string ⟨#[]⟩)) (zs.length * i0.size)))
  have HS := Lib.hid (show (madeCells (Value.cells (.string ⟨#[]⟩)) (zs.length * i0.size)).size = zs.length by rw [size_madeCells, hz1, Nat.mul_one])
  have HNE := Lib.hid hne
  clear hne hlen hi0 hz0 hz1 hz2
  go_enter Tryd.func49, Tryd.ntmps49
  go_wp2
  go_loopw [4] (fun i wr => ∃ (k : Nat) (arr : Array Value), k ≤ zs.length ∧ i = .int .i64 k ∧ Blk wr w.heap.size 9 arr ∧ Go.RowKit.Hid (arr.size = zs.length ∧ ∀ (j : Nat) (z : ByteArray), j < k → zs[j]? = some z → arr[j]? = some (.string z)) ∧ Below w.heap.size w wr) (fun i _ => zs.length - (intOf i).toNat)
  case atStart => exact ⟨0, _, Nat.zero_le _, rfl, HB.out, Lib.hid ⟨HS.out, fun j _ hj => absurd hj (by omega)⟩, (Below.refl _ _).alloc (Nat.le_refl _) _⟩
  case round =>
    obtain ⟨k, arr, hk, rfl, hblk, HAR, hb⟩ := hrel
    clear hmk
    have HBK := Lib.hid hblk
    have hwr : w.heap.size < wr.heap.size := hblk.lt
    clear hblk
    by_cases hlt : k < zs.length
    · obtain ⟨z, hzk⟩ : ∃ z, zs[k]? = some z := ⟨_, List.getElem?_eq_getElem hlt⟩
      obtain ⟨b, off, rfl, hbw, hcell⟩ := HNE.out (fun e => by rw [e] at hlt; simp at hlt)
      have HCK := Lib.hid hzk
      have g0 := (hb.cell (p := ⟨b, _, none⟩) hbw).trans (hcell k z hzk)
      have hbr : b < wr.heap.size := by omega
      obtain ⟨v0, e0⟩ := arr_some (a := arr) (j := k) (by rw [HAR.out.1]; exact hlt)
      have o0 := (HBK.out.cell k).trans e0
      have f0 := HBK.out.frozen k
      clear hzk e0 hcell
      go_wp2
      go_roundw
      case rel =>
        refine ⟨k + 1, _, by omega, by go_num, HBK.out.set_ k (.string z), Lib.hid ⟨by rw [Array.size_setIfInBounds]; exact HAR.out.1, fun j z' hj hz' => ?_⟩, hb.setCell (p := ⟨w.heap.size, _, none⟩) (Nat.le_refl _) _⟩
        rw [get_setIf _ _ _ _ (by rw [HAR.out.1]; exact hlt)]
        by_cases e : k = j
        · subst e
          rw [if_pos rfl, Option.some.inj (HCK.out.symm.trans hz')]
        · rw [if_neg e]
          exact HAR.out.2 j z' (by omega) hz'
      case measure => simp [intOf]; omega
    · obtain rfl : k = zs.length := by omega
      go_wp2
      go_ret
      exact ⟨_, rfl, ⟨_, _, rfl, fun _ => ⟨w.heap.size, rfl, hwr, fun j z hj => (HBK.out.cell j).trans (HAR.out.2 j z (List.getElem?_eq_some_iff.1 hj).1 hj)⟩⟩, hb⟩
set_option maxHeartbeats 3200000 in
theorem l_eqStrs (v u : Value) (zs : List ByteArray) (w : World) (hv : Strs w w.heap.size v zs) (hu : Strs w w.heap.size u zs) (hl : zs.length ≤ 1048576) :
    Calls Tryd.prog 51 #[v, u] w fun e w' => e = .returned (.bool true) ∧ Below w.heap.size w w' := by
  obtain ⟨A, cap, rfl, hc⟩ := hv
  obtain ⟨A2, cap2, rfl, hc2⟩ := hu
  have HC := Lib.hid hc
  have HC2 := Lib.hid hc2
  clear hc hc2
  go_enter Tryd.func51, Tryd.ntmps51
  go_wp2
  go_loopw [5] (fun i wr => ∃ k : Nat, k ≤ zs.length ∧ i = .int .i64 k ∧ Below w.heap.size w wr) (fun i _ => zs.length - (intOf i).toNat)
  case atStart => exact ⟨0, Nat.zero_le _, rfl, Below.refl _ _⟩
  case round =>
    obtain ⟨k, hk, rfl, hb⟩ := hrel
    by_cases hlt : k < zs.length
    · obtain ⟨g, rfl, hg, hcell⟩ := HC.out (fun e => by rw [e] at hlt; simp at hlt)
      obtain ⟨g', rfl, hg', hcell'⟩ := HC2.out (fun e => by rw [e] at hlt; simp at hlt)
      obtain ⟨z, hzk⟩ : ∃ z, zs[k]? = some z := ⟨_, List.getElem?_eq_getElem hlt⟩
      have h0 := (hb.cell (p := ⟨g, k, none⟩) hg).trans (hcell k z hzk)
      have h1 := (hb.cell (p := ⟨g', k, none⟩) hg').trans (hcell' k z hzk)
      have tz : (z.toList == z.toList) = true := by simp
      have hi1 : (k : Int) < (zs.length : Int) := by omega
      have hi0 : (0 : Int) ≤ (k : Int) := by omega
      clear hzk hcell hcell'
      go_wp2
      go_quiet (fail)
      go_wp2
      go_roundw
      case rel => exact ⟨k + 1, by omega, by go_num, ⟨hb.os, hb.tape, hb.output, hb.size, hb.block⟩⟩
      case measure => simp [intOf]; omega
    · obtain rfl : k = zs.length := by omega
      go_wp2
      go_ret
      exact ⟨rfl, hb⟩
end Go.Proofs.YthddidjdgbdlbaaDoor
