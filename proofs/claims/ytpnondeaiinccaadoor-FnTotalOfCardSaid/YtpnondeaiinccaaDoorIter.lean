/- slices.Backward over a slice of columns, as an iterator of a range loop: its contract. -/
import Derived.Test.YtpnondeaiinccaaDoorMem
import Derived.RangeFuncBox
import Derived.RangeFuncNested
import Derived.RangeFuncLeaves
import Derived.Shelf.Abstract
import Derived.OwnWalkIn
import Derived.TacticsInMore
import Derived.LoopNIn
import Derived.LoopIn
import Derived.Maps.AppendAt
namespace Go.Proofs.YtpnondeaiinccaaDoor
open Go.RowKit Go.Shelf
set_option linter.unusedVariables false
attribute [local go_sem] Oper.semAt_some
def colAt (cs : List Col) (k : Nat) : Col := cs[k]?.getD ⟨0, 0, 0, 0, 0⟩
theorem colAt_get {cs : List Col} {k : Nat} (h : k < cs.length) : cs[k]? = some (colAt cs k) := by unfold colAt; rw [List.getElem?_eq_getElem h]; rfl
/-- what has come when k rounds are over: the last k columns, from the back -/
def backP (cs : List Col) (k : Nat) : List (Int × Col) := (List.range k).map fun j : Nat => ((cs.length : Int) - 1 - (j : Int), colAt cs (cs.length - 1 - j))
theorem backP_succ (cs : List Col) (k : Nat) : backP cs (k + 1) = backP cs k ++ [((cs.length : Int) - 1 - k, colAt cs (cs.length - 1 - k))] := by simp [backP, List.range_succ]
theorem backP_length (cs : List Col) (k : Nat) : (backP cs k).length = k := by simp [backP]
def encs (x : Int × Col) : Array Value := #[.int .i64 x.1, .agg #[.int .i64 x.2.a, .int .i64 x.2.b, .int .i64 x.2.i, .int .i64 x.2.d, .int .i64 x.2.o]]
/-- what a round of the loop leaves: what lay below n₀; and block Bs -/
def KpB (n₀ Bs : Nat) (A B : World) : Prop := Below n₀ A B ∧ B.heap[Bs]? = A.heap[Bs]?
theorem KpB.refl (n₀ Bs : Nat) (A : World) : KpB n₀ Bs A A := ⟨Below.refl _ _, rfl⟩
theorem KpB.trans {n₀ Bs : Nat} {A B C : World} (h : KpB n₀ Bs A B) (k : KpB n₀ Bs B C) : KpB n₀ Bs A C := ⟨h.1.trans k.1, k.2.trans h.2⟩
theorem kpB_b {n₀ Bs : Nat} {w : World} (hn : n₀ ≤ w.heap.size) (hB : Bs < w.heap.size) (W : World) (l : Nat) (o o' : Obj) (hl : w.heap.size ≤ l) (h : W.heap[l]? = some o) (hc : o.isCells = false) (hw : o.isWalk = false) : KpB n₀ Bs W (W.putObj l o') :=
  ⟨belowK_b hn W l o o' hl h hc hw, (grownBy_putObj' W l o').block Bs (by have := (Array.getElem?_eq_some_iff.1 h).1; omega) (fun e => by cases e; omega)⟩
set_option maxRecDepth 100000 in
set_option maxHeartbeats 2000000 in
theorem back1_in (n l Bs n₀ g cap : Nat) (cs : List Col) (hn : 1 ≤ n) (hlen : cs.length ≤ 1048576) (hb : g < n₀) (J Jx : List (Int × Col) → World → Prop)
    (hY : ∀ pre x W, J pre W → pre.length < cs.length → YieldAt Fence.wide (n - 1) Tryd.prog l (encs x) W fun e W' =>
      (e = .returned (.bool true) ∧ J (pre ++ [x]) W' ∧ KpB n₀ Bs W W') ∨ (e = .returned (.bool false) ∧ Jx (pre ++ [x]) W'))
    (W : World) (hBs : W.cell? ⟨Bs, 0, none⟩ = some (.slice (some ⟨g, 0, none⟩) cs.length cap)) (hc : ∀ k c, cs[k]? = some c → ColCells W g k c) (h0 : J [] W) :
    CallsIn Fence.wide n Tryd.prog 110 #[.func (.yield l) #[] #[], .pointer (some ⟨Bs, 0, none⟩)] W fun e W' => (∃ v, e = .returned v) ∧
      ((∃ ys, ys = backP cs cs.length ∧ J ys W') ∨ (∃ pre, (∃ k, k ≤ cs.length ∧ pre = backP cs k) ∧ Jx pre W')) := by
  have hro : Fence.wide.round = none := rfl
  have HC := Lib.hid hc
  clear hc
  refine callsIn_of_wp Tryd.func110 rfl trivial ?_ hro
  simp only [Tryd.ntmps110, List.size_toArray, List.length_cons, List.length_nil, Nat.reduceAdd, Nat.reduceSub, Array.replicate_succ, Array.replicate_zero, List.push_toArray, List.append_toArray, List.nil_append, List.cons_append]
  gi_wp2
  gi_loopw [3] (fun i wr => ∃ k : Nat, k ≤ cs.length ∧ i = .int .i64 ((cs.length : Int) - 1 - k) ∧ J (backP cs k) wr ∧ KpB n₀ Bs W wr)
    (fun i _ => (intOf i + 1).toNat)
  case atStart => exact ⟨0, Nat.zero_le _, by simp, h0, KpB.refl _ _ _⟩
  case round =>
    obtain ⟨k, hk, rfl, hJs, hnx⟩ := hrel
    have hbs : wr.cell? ⟨Bs, 0, none⟩ = some (.slice (some ⟨g, 0, none⟩) cs.length cap) := (World.cell?_of_block (a := ⟨Bs, 0, none⟩) hnx.2).trans hBs
    by_cases hlt : k < cs.length
    · obtain ⟨m, hm⟩ : ∃ m : Nat, cs.length = m + k + 1 := ⟨cs.length - 1 - k, by omega⟩
      have hmi : (cs.length : Int) - 1 - k = (m : Int) := by omega
      have hmn : cs.length - 1 - k = m := by omega
      obtain ⟨h0, h1, h2, h3, h4⟩ := (HC.out m _ (colAt_get (by omega))).below hb hnx.1
      obtain ⟨fn, tmps, assign, body, hy, hR⟩ := hY _ ((cs.length : Int) - 1 - k, colAt cs (cs.length - 1 - k)) wr hJs (by rw [backP_length]; exact hlt)
      have HS := Lib.hid (backP_succ cs k)
      have HM := Lib.hid hmi
      rw [hmi, hmn] at hy hR
      rw [hmi, hmn] at HS
      rw [hmi]
      unfold encs at hy
      have hml : m < cs.length := by omega
      have HL := Lib.hid hm
      clear hmi hmn hm
      gi_wp2
      refine hR.mono ?_
      rintro e W3 (⟨rfl, hJ3, hk3⟩ | ⟨rfl, hJx3⟩)
      · gi_wp2
        go_roundw
        case rel => exact ⟨k + 1, by omega, by have := HL.out; congr 1; omega, by rw [HS.out]; exact hJ3, hnx.trans hk3⟩
        case measure => simp [intOf]
      · gi_wp2
        refine bodyPost_ret (results_none rfl _ _ _) rfl ?_
        exact ⟨⟨_, rfl⟩, .inr ⟨_, ⟨k + 1, by omega, HS.out.symm⟩, hJx3⟩⟩
    · obtain rfl : k = cs.length := by omega
      have hmi : (cs.length : Int) - 1 - (cs.length : Int) = -1 := by omega
      rw [hmi]
      clear hmi
      gi_wp2
      go_end0
      exact ⟨⟨_, rfl⟩, .inl ⟨_, rfl, hJs⟩⟩
set_option maxRecDepth 100000 in
set_option maxHeartbeats 1000000 in
theorem back1_nil (n l Bs cap : Nat) (A : Option Addr) (J : List (Int × Col) → World → Prop) (W : World) (hBs : W.cell? ⟨Bs, 0, none⟩ = some (.slice A 0 cap)) (h0 : J [] W) :
    CallsIn Fence.wide n Tryd.prog 110 #[.func (.yield l) #[] #[], .pointer (some ⟨Bs, 0, none⟩)] W fun e W' => (∃ v, e = .returned v) ∧ J [] W' := by
  have hro : Fence.wide.round = none := rfl
  refine callsIn_of_wp Tryd.func110 rfl trivial ?_ hro
  simp only [Tryd.ntmps110, List.size_toArray, List.length_cons, List.length_nil, Nat.reduceAdd, Nat.reduceSub, Array.replicate_succ, Array.replicate_zero, List.push_toArray, List.append_toArray, List.nil_append, List.cons_append]
  gi_wp2
  gi_loopw [3] (fun i wr => i = .int .i64 (-1) ∧ J [] wr) (fun _ _ => 0)
  case atStart => exact ⟨rfl, h0⟩
  case round =>
    obtain ⟨rfl, hJs⟩ := hrel
    gi_wp2
    go_end0
    exact ⟨⟨_, rfl⟩, hJs⟩
set_option maxHeartbeats 1000000 in
theorem backward_in (n : Nat) (A : Option Addr) (len cap : Nat) (w : World) :
    CallsIn Fence.wide n Tryd.prog 95 #[.slice A len cap] w fun e w' => e = .returned (.func (.func 110) #[] #[.pointer (some ⟨w.heap.size, 0, none⟩)]) ∧ w' = w.alloc (.cells #[.slice A len cap] 33) := by
  refine callsIn_of_wp Tryd.func95 rfl trivial ?_ rfl
  simp only [Tryd.ntmps95, List.size_toArray, List.length_cons, List.length_nil, Nat.reduceAdd, Nat.reduceSub, Array.replicate_succ, Array.replicate_zero, List.push_toArray, List.append_toArray, List.nil_append, List.cons_append]
  gi_wp2
  go_ret
  exact ⟨rfl, rfl⟩
theorem backward_stops (n : Nat) (hn : 1 ≤ n) (Bs n₀ : Nat) (sv : Value) (cs : List Col) (hlen : cs.length ≤ 1048576) (w : World) (hBs : Bs < w.heap.size) (hn₀ : n₀ ≤ w.heap.size)
    (hc : w.cell? ⟨Bs, 0, none⟩ = some sv) (hI : Cols w n₀ sv cs) :
    SeqStopsK Fence.wide n Tryd.prog 110 #[.pointer (some ⟨Bs, 0, none⟩)] encs (KpB n₀ Bs) (fun ys => ys = backP cs cs.length) (fun pre => ∃ k, k ≤ cs.length ∧ pre = backP cs k) cs.length w := fun l J Jx W hW _ _ hY h0 => by
  have hc' := (hW.cell (p := ⟨Bs, 0, none⟩) hBs).trans hc
  obtain ⟨A, cap, rfl, hcs⟩ := hI.below (hW.mono hn₀)
  by_cases hne : cs = []
  · subst hne
    refine (back1_nil n l Bs cap A J W hc' h0).mono ?_
    rintro e W' ⟨hv, hJ⟩
    exact ⟨hv, .inl ⟨[], rfl, hJ⟩⟩
  · obtain ⟨g, rfl, hg, hcell⟩ := hcs hne
    exact back1_in n l Bs n₀ g cap cs hn hlen hg J Jx hY W hc' hcell h0
end Go.Proofs.YtpnondeaiinccaaDoor
