/- Walks of the reader of a code: l20Open, pick, odd: nothing is said of what is drawn but its bounds. -/
import Derived.Test.YtpnondeaiinccaaDoorNumOk
import Derived.Test.YtpnondeaiinccaaDoorView
import Derived.Deep.QuietTactic
import Derived.BigQuiet
import Derived.Maps.AppendAt
import Derived.Laws.BitsAllLaws
import Derived.Laws.BitsLemmas
namespace Go.Proofs.YtpnondeaiinccaaDoor
open Go.RowKit
set_option linter.unusedVariables false

/-- block R is a reader: a slice of bytes that lies in an older block, and how often it was read -/
def Rdr (w : World) (R : Nat) (p : Nat) : Prop :=
  ∃ A n c, Blk w R 69 #[.slice A n c, .int .i64 (p : Int)] ∧ n ≤ 2000 ∧
    (0 < n → ∃ bb off, A = some ⟨bb, off, none⟩ ∧ bb < R ∧ ∀ j, j < n → ∃ b : Nat, b ≤ 255 ∧ w.cell? ⟨bb, off + j, none⟩ = some (.int .u8 (b : Int)))
theorem Rdr.lt {w : World} {R p : Nat} (h : Rdr w R p) : R < w.heap.size := by obtain ⟨A, n, c, hb, _⟩ := h; exact hb.lt
/-- a reader is one still where its own block and the older ones are as they were -/
theorem Rdr.keep {w w' : World} {R p : Nat} (h : Rdr w R p) (hk : ∀ b, b ≤ R → w'.heap[b]? = w.heap[b]?) : Rdr w' R p := by
  obtain ⟨A, n, c, hb, hn, hc⟩ := h
  refine ⟨A, n, c, (hk R (Nat.le_refl _)).trans hb, hn, fun h0 => ?_⟩
  obtain ⟨bb, off, hA, hbb, hcell⟩ := hc h0
  refine ⟨bb, off, hA, hbb, fun j hj => ?_⟩
  obtain ⟨b, hb, hcl⟩ := hcell j hj
  exact ⟨b, hb, (World.cell?_of_block (a := ⟨bb, off + j, none⟩) (hk bb (by omega))).trans hcl⟩
theorem Rdr.below {w w' : World} {R p : Nat} (h : Rdr w R p) (hb : Below w.heap.size w w') : Rdr w' R p :=
  h.keep fun b hle => hb.block b (Nat.lt_of_le_of_lt hle h.lt)
theorem Rdr.alloc {w : World} {R p : Nat} (h : Rdr w R p) (o : Obj) : Rdr (w.alloc o) R p :=
  h.keep fun b hle => Below.heap_alloc w o b (Nat.lt_of_le_of_lt hle h.lt)
theorem Rdr.drewN {w : World} {R p : Nat} (h : Rdr w R p) (n : Nat) : Rdr (w.drewN n) R p := h.keep fun _ _ => rfl
theorem Rdr.drew {w : World} {R p : Nat} (h : Rdr w R p) : Rdr w.drew R p := h.keep fun _ _ => rfl

/-- only block R, and what is new, has changed -/
def Only (R : Nat) (w w' : World) : Prop := w.grownBy w' (some R)
theorem Only.refl (R : Nat) (w : World) : Only R w w := World.grownBy.refl w _
theorem Only.trans {R : Nat} {a b c : World} (h : Only R a b) (k : Only R b c) : Only R a c := World.grownBy.trans h k
theorem Only.below_ {R B : Nat} {a b : World} (h : Only R a b) (hB : B ≤ a.heap.size) (hR : B ≤ R) : Below B a b := (Below.refl B a).grown h hB (fun k hk => by cases hk; exact hR)
theorem Only.of_below {R : Nat} {a b : World} (h : Below a.heap.size a b) : Only R a b := ⟨h.os, h.tape, h.output, h.size, fun i hi _ => h.block i hi⟩
theorem Only.alloc {R : Nat} {a b : World} (h : Only R a b) (o : Obj) : Only R a (b.alloc o) := h.trans (World.grownBy_alloc b o _)
theorem Only.drew {R : Nat} {a b : World} (h : Only R a b) : Only R a b.drew := ⟨h.os, h.tape, h.output, h.size, h.block⟩
theorem Only.drewN {R : Nat} {a b : World} (h : Only R a b) (n : Nat) : Only R a (b.drewN n) := ⟨h.os, h.tape, h.output, h.size, h.block⟩
theorem Only.size {R : Nat} {a b : World} (h : Only R a b) : a.heap.size ≤ b.heap.size := World.grownBy.size h
theorem Only.cell {R : Nat} {a b : World} (h : Only R a b) {g o : Nat} (hg : g < a.heap.size) (hne : g ≠ R) : b.cell? ⟨g, o, none⟩ = a.cell? ⟨g, o, none⟩ :=
  World.cell?_of_block (a := ⟨g, o, none⟩) (h.block g hg (fun e => hne (by injection e)))
theorem Only.blk {R g : Nat} {t : TypeId} {cs : Array Value} {a b : World} (h : Only R a b) (hb : Blk a g t cs) (hne : g ≠ R) : Blk b g t cs := hb.grown h (fun e => hne (by injection e))
theorem Only.set_ {R : Nat} {a b : World} (h : Only R a b) (i : Nat) (u : Value) : Only R a (b.setCell ⟨R, i, none⟩ u) :=
  h.trans ⟨rfl, rfl, rfl, by simp [World.setCell], fun i hi hne => Below.heap_setCell b _ u i (fun e => hne (by rw [e]))⟩

theorem ofInt_i64 (a : Nat) (ha : a < 9223372036854775808) : (BitVec.ofInt 64 (a : Int)).toNat = a := by
  rw [BitVec.ofInt_natCast, BitVec.toNat_ofNat]; exact Nat.mod_eq_of_lt (by omega)
theorem i64_xor_nat (a b : Nat) (ha : a < 9223372036854775808) (hb : b < 9223372036854775808) : bits .xor .i64 (a : Int) (b : Int) = ((a ^^^ b : Nat) : Int) := by
  have hx : a ^^^ b < 2 ^ 63 := Nat.xor_lt_two_pow (by omega) (by omega)
  show IntKind.i64.wrap ((BitVec.ofInt 64 (a : Int) ^^^ BitVec.ofInt 64 (b : Int)).toNat : Int) = _
  rw [BitVec.toNat_xor, ofInt_i64 a ha, ofInt_i64 b hb, IntKind.wrap_i64]
  omega
/-- the mixture that is no byte of the code -/
theorem xor_some (x : Int) (h0 : 0 ≤ x) (h1 : x < 9223372036854775808) : ∃ y : Nat, (y : Int) ≤ 9223372036854775807 ∧ bits .xor .i64 x (x / 64) = (y : Int) := by
  obtain ⟨a, rfl⟩ := Int.eq_ofNat_of_zero_le h0
  have e : ((a : Int) / 64) = ((a / 64 : Nat) : Int) := rfl
  rw [e]
  have hx : a ^^^ (a / 64) < 2 ^ 63 := Nat.xor_lt_two_pow (by omega) (by omega)
  exact ⟨a ^^^ (a / 64), by omega, i64_xor_nat a (a / 64) (by omega) (by omega)⟩

set_option maxHeartbeats 1600000 in
theorem s_pick (R p n : Nat) (w : World) (hr : Rdr w R p) (h1 : 1 ≤ n) (h2 : n ≤ 100000) (hp : p ≤ 100000) :
    Calls Tryd.prog 54 #[.pointer (some ⟨R, 0, none⟩), .int .i64 (n : Int)] w fun e w' => ∃ k : Nat, k < n ∧ e = .returned (.int .i64 (k : Int)) ∧ Rdr w' R (p + 1) ∧ Only R w w' := by
  obtain ⟨A, len, c, hblk, hlen, hc⟩ := hr
  have c0 := hblk.cell 0
  have c1 := hblk.cell 1
  have f1 := hblk.frozen 1
  simp at c0 c1
  have hn1 : ¬ (n : Int) < 1 := by omega
  have hsz : (#[Value.slice A len c, Value.int .i64 (p : Int)] : Array Value).size = 2 := rfl
  have HB := Lib.hid hblk
  have HO : Only R w (w.setCell ⟨R, 1, none⟩ (.int .i64 ((p : Int) + 1))) := (Only.refl R w).set_ 1 _
  have HR : Rdr (w.setCell ⟨R, 1, none⟩ (.int .i64 ((p : Int) + 1))) R (p + 1) := by
    refine ⟨A, len, c, ?_, hlen, fun h0 => ?_⟩
    · have := HB.out.set_ 1 (.int .i64 ((p : Int) + 1))
      exact this
    · obtain ⟨bb, off, hA, hbb, hcell⟩ := hc h0
      refine ⟨bb, off, hA, hbb, fun j hj => ?_⟩
      obtain ⟨b, hb, hcl⟩ := hcell j hj
      exact ⟨b, hb, (HO.cell (by have := HB.out.lt; omega) (by omega)).trans hcl⟩
  have HOO := Lib.hid HO
  have HRR := Lib.hid HR
  have HC := Lib.hid hc
  have hRw := hblk.lt
  have ep : IntKind.i64.wrap ((p : Int) + 1) = (p : Int) + 1 := IntWalk.i64_in _ (by omega)
  clear HO HR hc hblk
  by_cases hz : len = 0
  · subst hz
    go_enter Tryd.func54, Tryd.ntmps54
    go_wp2
    go_ret
    exact ⟨0, by omega, rfl, HRR.out, HOO.out⟩
  · obtain ⟨bb, off, rfl, hbb, hcell⟩ := HC.out (by omega)
    have hlen0 : ¬ (len : Int) = 0 := by omega
    have t0 : ((len : Int) == 0) = false := by simp; omega
    have hbr : bb < w.heap.size := by omega
    have hne : bb ≠ R := by omega
    by_cases hk : p < len
    · obtain ⟨b, hb, hcl⟩ := hcell p hk
      have hm := Int.tmod_eq_emod_of_nonneg (a := (b : Int)) (b := (n : Int)) (by omega)
      have HK := Lib.hid (show b % n < n from Nat.mod_lt _ (by omega))
      clear hcell
      go_enter Tryd.func54, Tryd.ntmps54
      go_wp2
      go_ret
      exact ⟨b % n, HK.out, by rfl, HRR.out, HOO.out⟩
    · obtain ⟨b1, hb1, hc1⟩ := hcell (p % len) (Nat.mod_lt _ (by omega))
      obtain ⟨b2, hb2, hc2⟩ := hcell ((p * 7 + 3) % len) (Nat.mod_lt _ (by omega))
      have m1 : (p : Int).tmod (len : Int) = ((p % len : Nat) : Int) := by rw [Int.tmod_eq_emod_of_nonneg (by omega)]; rfl
      have m2 : ((p : Int) * 7 + 3).tmod (len : Int) = (((p * 7 + 3) % len : Nat) : Int) := by rw [Int.tmod_eq_emod_of_nonneg (by omega)]; rfl
      have q1 : (p : Int).tdiv (len : Int) = ((p / len : Nat) : Int) := by rw [Int.tdiv_eq_ediv_of_nonneg (by omega)]; rfl
      have hq : p / len ≤ p := Nat.div_le_self _ _
      have hl1 : p % len < len := Nat.mod_lt _ (by omega)
      have hl2 : (p * 7 + 3) % len < len := Nat.mod_lt _ (by omega)
      obtain ⟨r1, hr1⟩ : ∃ r, r = p % len := ⟨_, rfl⟩
      obtain ⟨r2, hr2⟩ : ∃ r, r = (p * 7 + 3) % len := ⟨_, rfl⟩
      obtain ⟨q, hqq⟩ : ∃ r, r = p / len := ⟨_, rfl⟩
      rw [← hr1] at hc1 m1 hl1
      rw [← hr2] at hc2 m2 hl2
      rw [← hqq] at q1 hq
      have e1 : IntKind.i64.wrap ((b1 : Int) * 131) = (b1 : Int) * 131 := IntWalk.i64_in _ (by omega)
      have e2 : IntKind.i64.wrap ((p : Int) * 7) = (p : Int) * 7 := IntWalk.i64_in _ (by omega)
      have e3 : IntKind.i64.wrap ((p : Int) * 7 + 3) = (p : Int) * 7 + 3 := IntWalk.i64_in _ (by omega)
      have e4 : IntKind.i64.wrap ((b2 : Int) * 1117) = (b2 : Int) * 1117 := IntWalk.i64_in _ (by omega)
      have e5 : IntKind.i64.wrap ((b1 : Int) * 131 + (b2 : Int) * 1117) = (b1 : Int) * 131 + (b2 : Int) * 1117 := IntWalk.i64_in _ (by omega)
      have e6 : IntKind.i64.wrap ((p : Int) * 29) = (p : Int) * 29 := IntWalk.i64_in _ (by omega)
      have e7 : IntKind.i64.wrap ((b1 : Int) * 131 + (b2 : Int) * 1117 + (p : Int) * 29) = (b1 : Int) * 131 + (b2 : Int) * 1117 + (p : Int) * 29 := IntWalk.i64_in _ (by omega)
      have e8 : IntKind.i64.wrap ((q : Int) * 53) = (q : Int) * 53 := IntWalk.i64_in _ (by omega)
      have e9 : IntKind.i64.wrap ((b1 : Int) * 131 + (b2 : Int) * 1117 + (p : Int) * 29 + (q : Int) * 53) = (b1 : Int) * 131 + (b2 : Int) * 1117 + (p : Int) * 29 + (q : Int) * 53 := IntWalk.i64_in _ (by omega)
      obtain ⟨y, hy, hxor⟩ := xor_some ((b1 : Int) * 131 + (b2 : Int) * 1117 + (p : Int) * 29 + (q : Int) * 53) (by omega) (by omega)
      have HK := Lib.hid (show y % n < n from Nat.mod_lt _ (by omega))
      have HM := Lib.hid (show (y : Int).tmod (n : Int) = ((y % n : Nat) : Int) by rw [Int.tmod_eq_emod_of_nonneg (by omega)]; rfl)
      have hx0 : ((b1 : Int) * 131 + (b2 : Int) * 1117 + (p : Int) * 29 + (q : Int) * 53).tdiv 64 = ((b1 : Int) * 131 + (b2 : Int) * 1117 + (p : Int) * 29 + (q : Int) * 53) / 64 := Int.tdiv_eq_ediv_of_nonneg (by omega)
      clear hcell hr1 hr2 hqq
      go_enter Tryd.func54, Tryd.ntmps54
      go_wp2
      go_quiet (fail)
      go_wp2
      go_ret
      exact ⟨y % n, HK.out, congrArg (fun z => Ending.returned (Value.int .i64 z)) HM.out, HRR.out.drewN _, HOO.out.drewN _⟩
end Go.Proofs.YtpnondeaiinccaaDoor
