/- Walks of WrongRow: of the program's closure, of the program and of the reference. -/
import Derived.Test.YtcmpbdmpdodbfaaCol2
import Derived.Deep.QuietTactic
import Derived.BigQuiet
namespace Go.Proofs.Ytcmpbdmpdodbfaa
open Go.RowKit
set_option linter.unusedVariables false
theorem quiet_add_left {P : Program} {f : FuncId} {args : Array Value} {w : World} {a n : Nat} {v : Value}
    (h : Calls P f args (w.drewN (a + n)) fun e w' => e = .returned v ∧ w.drewN (a + n) = w') :
    Calls P f args (w.drewN (a + n)) fun e w'' => e = .returned v ∧ ∃ m, w'' = w.drewN (a + m) :=
  h.mono fun _ _ ⟨he, hm⟩ => ⟨he, n, hm.symm⟩
theorem quiet_left {P : Program} {f : FuncId} {args : Array Value} {w : World} {n : Nat} {v : Value}
    (h : Calls P f args (w.drewN n) fun e w' => e = .returned v ∧ w.drewN n = w') : Calls P f args (w.drewN n) fun e w'' => e = .returned v ∧ ∃ m, w'' = w.drewN m :=
  h.mono fun _ _ ⟨he, hm⟩ => ⟨he, n, hm.symm⟩
theorem mul_le81 {a b : Int} (ha : 0 ≤ a ∧ a ≤ 9) (hb : 0 ≤ b ∧ b ≤ 9) : 0 ≤ a * b ∧ a * b ≤ 81 := by
  refine ⟨Int.mul_nonneg ha.1 hb.1, ?_⟩
  have h1 : a * b ≤ 9 * b := Int.mul_le_mul_of_nonneg_right ha.2 hb.1
  omega
theorem goodB_eq (c : Col) : goodB c = (inB c.a 0 9 && inB c.b 0 9 && inB c.i 0 9 && inB c.d 0 9 && inB c.o 0 9) := rfl
theorem i_isDigit_t (n : Int) (w : World) (h : inB n 0 9 = true) : Calls Try.prog 30 #[.int .i64 n] w fun e w' => e = .returned (.bool true) ∧ w = w' := by
  have := i_isDigit n w; rw [h] at this; exact this
theorem i_isDigit_f (n : Int) (w : World) (h : inB n 0 9 = false) : Calls Try.prog 30 #[.int .i64 n] w fun e w' => e = .returned (.bool false) ∧ w = w' := by
  have := i_isDigit n w; rw [h] at this; exact this
theorem below_drewN {B : Nat} {a w : World} (h : Below B a w) (n : Nat) : Below B a (w.drewN n) := ⟨h.os, h.tape, h.output, h.size, h.block⟩
set_option maxHeartbeats 1600000 in
theorem row_no0 (c : Col) (b0 : Int) (B g cap n : Nat) (w : World) (hB : B < w.heap.size) (hg : g < w.heap.size) (hp : w.cell? ⟨B, 0, none⟩ = some (.slice (some ⟨g, 0, none⟩) n cap)) (hn : (0 : Int) < (n : Int))
    (hb0 : w.cell? ⟨g, 1, none⟩ = some (.int .i64 b0)) (t0 : inB c.a 0 9 = false) :
    Calls Try.prog 29 #[c.v, .pointer (some ⟨B, 0, none⟩)] w fun e w' => e = .returned (.bool (rRow b0 c)) ∧ Below w.heap.size w w' := by
  have H := Lib.hid (show rRow b0 c = false by cases e : rRow b0 c; rfl; have := (rRow_iff.1 e).1; rw [goodB_eq] at this; simp [t0] at this)
  rw [show c.v = .agg #[.int .i64 c.a, .int .i64 c.b, .int .i64 c.i, .int .i64 c.d, .int .i64 c.o] from rfl]
  go_enter Try.func29, Try.ntmps29
  go_wp2_with fail
  go_quiet ((go_at_call 30; first | (refine quiet_left (i_isDigit_t _ _ ?_); assumption) | (refine quiet_left (i_isDigit_f _ _ ?_); assumption)))
  go_wp2
  go_ret
  exact ⟨ret_bool H.out.symm, below_drewN ((Below.refl _ _).alloc (Nat.le_refl _) _) _⟩
set_option maxHeartbeats 1600000 in
theorem row_no1 (c : Col) (b0 : Int) (B g cap n : Nat) (w : World) (hB : B < w.heap.size) (hg : g < w.heap.size) (hp : w.cell? ⟨B, 0, none⟩ = some (.slice (some ⟨g, 0, none⟩) n cap)) (hn : (0 : Int) < (n : Int))
    (hb0 : w.cell? ⟨g, 1, none⟩ = some (.int .i64 b0)) (t0 : inB c.a 0 9 = true) (t1 : inB c.b 0 9 = false) :
    Calls Try.prog 29 #[c.v, .pointer (some ⟨B, 0, none⟩)] w fun e w' => e = .returned (.bool (rRow b0 c)) ∧ Below w.heap.size w w' := by
  have H := Lib.hid (show rRow b0 c = false by cases e : rRow b0 c; rfl; have := (rRow_iff.1 e).1; rw [goodB_eq] at this; simp [t1] at this)
  rw [show c.v = .agg #[.int .i64 c.a, .int .i64 c.b, .int .i64 c.i, .int .i64 c.d, .int .i64 c.o] from rfl]
  go_enter Try.func29, Try.ntmps29
  go_wp2_with fail
  go_quiet ((go_at_call 30; first | (refine quiet_left (i_isDigit_t _ _ ?_); assumption) | (refine quiet_left (i_isDigit_f _ _ ?_); assumption)))
  go_wp2
  go_ret
  exact ⟨ret_bool H.out.symm, below_drewN ((Below.refl _ _).alloc (Nat.le_refl _) _) _⟩
set_option maxHeartbeats 1600000 in
theorem row_no2 (c : Col) (b0 : Int) (B g cap n : Nat) (w : World) (hB : B < w.heap.size) (hg : g < w.heap.size) (hp : w.cell? ⟨B, 0, none⟩ = some (.slice (some ⟨g, 0, none⟩) n cap)) (hn : (0 : Int) < (n : Int))
    (hb0 : w.cell? ⟨g, 1, none⟩ = some (.int .i64 b0)) (t0 : inB c.a 0 9 = true) (t1 : inB c.b 0 9 = true) (t2 : inB c.i 0 9 = false) :
    Calls Try.prog 29 #[c.v, .pointer (some ⟨B, 0, none⟩)] w fun e w' => e = .returned (.bool (rRow b0 c)) ∧ Below w.heap.size w w' := by
  have H := Lib.hid (show rRow b0 c = false by cases e : rRow b0 c; rfl; have := (rRow_iff.1 e).1; rw [goodB_eq] at this; simp [t2] at this)
  rw [show c.v = .agg #[.int .i64 c.a, .int .i64 c.b, .int .i64 c.i, .int .i64 c.d, .int .i64 c.o] from rfl]
  go_enter Try.func29, Try.ntmps29
  go_wp2_with fail
  go_quiet ((go_at_call 30; first | (refine quiet_left (i_isDigit_t _ _ ?_); assumption) | (refine quiet_left (i_isDigit_f _ _ ?_); assumption)))
  go_wp2
  go_ret
  exact ⟨ret_bool H.out.symm, below_drewN ((Below.refl _ _).alloc (Nat.le_refl _) _) _⟩
set_option maxHeartbeats 1600000 in
theorem row_no3 (c : Col) (b0 : Int) (B g cap n : Nat) (w : World) (hB : B < w.heap.size) (hg : g < w.heap.size) (hp : w.cell? ⟨B, 0, none⟩ = some (.slice (some ⟨g, 0, none⟩) n cap)) (hn : (0 : Int) < (n : Int))
    (hb0 : w.cell? ⟨g, 1, none⟩ = some (.int .i64 b0)) (t0 : inB c.a 0 9 = true) (t1 : inB c.b 0 9 = true) (t2 : inB c.i 0 9 = true) (t3 : inB c.d 0 9 = false) :
    Calls Try.prog 29 #[c.v, .pointer (some ⟨B, 0, none⟩)] w fun e w' => e = .returned (.bool (rRow b0 c)) ∧ Below w.heap.size w w' := by
  have H := Lib.hid (show rRow b0 c = false by cases e : rRow b0 c; rfl; have := (rRow_iff.1 e).1; rw [goodB_eq] at this; simp [t3] at this)
  rw [show c.v = .agg #[.int .i64 c.a, .int .i64 c.b, .int .i64 c.i, .int .i64 c.d, .int .i64 c.o] from rfl]
  go_enter Try.func29, Try.ntmps29
  go_wp2_with fail
  go_quiet ((go_at_call 30; first | (refine quiet_left (i_isDigit_t _ _ ?_); assumption) | (refine quiet_left (i_isDigit_f _ _ ?_); assumption)))
  go_wp2
  go_ret
  exact ⟨ret_bool H.out.symm, below_drewN ((Below.refl _ _).alloc (Nat.le_refl _) _) _⟩
set_option maxHeartbeats 1600000 in
theorem row_no4 (c : Col) (b0 : Int) (B g cap n : Nat) (w : World) (hB : B < w.heap.size) (hg : g < w.heap.size) (hp : w.cell? ⟨B, 0, none⟩ = some (.slice (some ⟨g, 0, none⟩) n cap)) (hn : (0 : Int) < (n : Int))
    (hb0 : w.cell? ⟨g, 1, none⟩ = some (.int .i64 b0)) (t0 : inB c.a 0 9 = true) (t1 : inB c.b 0 9 = true) (t2 : inB c.i 0 9 = true) (t3 : inB c.d 0 9 = true) (t4 : inB c.o 0 9 = false) :
    Calls Try.prog 29 #[c.v, .pointer (some ⟨B, 0, none⟩)] w fun e w' => e = .returned (.bool (rRow b0 c)) ∧ Below w.heap.size w w' := by
  have H := Lib.hid (show rRow b0 c = false by cases e : rRow b0 c; rfl; have := (rRow_iff.1 e).1; rw [goodB_eq] at this; simp [t4] at this)
  rw [show c.v = .agg #[.int .i64 c.a, .int .i64 c.b, .int .i64 c.i, .int .i64 c.d, .int .i64 c.o] from rfl]
  go_enter Try.func29, Try.ntmps29
  go_wp2_with fail
  go_quiet ((go_at_call 30; first | (refine quiet_left (i_isDigit_t _ _ ?_); assumption) | (refine quiet_left (i_isDigit_f _ _ ?_); assumption)))
  go_wp2
  go_ret
  exact ⟨ret_bool H.out.symm, below_drewN ((Below.refl _ _).alloc (Nat.le_refl _) _) _⟩
set_option maxHeartbeats 1600000 in
theorem row_no5 (c : Col) (b0 : Int) (B g cap n : Nat) (w : World) (hB : B < w.heap.size) (hg : g < w.heap.size) (hp : w.cell? ⟨B, 0, none⟩ = some (.slice (some ⟨g, 0, none⟩) n cap)) (hn : (0 : Int) < (n : Int))
    (hb0 : w.cell? ⟨g, 1, none⟩ = some (.int .i64 b0)) (t0 : inB c.a 0 9 = true) (t1 : inB c.b 0 9 = true) (t2 : inB c.i 0 9 = true) (t3 : inB c.d 0 9 = true) (t4 : inB c.o 0 9 = true) (t5 : (c.b == b0) = false) :
    Calls Try.prog 29 #[c.v, .pointer (some ⟨B, 0, none⟩)] w fun e w' => e = .returned (.bool (rRow b0 c)) ∧ Below w.heap.size w w' := by
  have H := Lib.hid (show rRow b0 c = false by cases e : rRow b0 c; rfl; have := (rRow_iff.1 e).2.1; simp [this] at t5)
  rw [show c.v = .agg #[.int .i64 c.a, .int .i64 c.b, .int .i64 c.i, .int .i64 c.d, .int .i64 c.o] from rfl]
  go_enter Try.func29, Try.ntmps29
  go_wp2_with fail
  go_quiet ((go_at_call 30; first | (refine quiet_left (i_isDigit_t _ _ ?_); assumption) | (refine quiet_left (i_isDigit_f _ _ ?_); assumption)))
  go_wp2
  go_ret
  exact ⟨ret_bool H.out.symm, below_drewN ((Below.refl _ _).alloc (Nat.le_refl _) _) _⟩
set_option maxHeartbeats 1600000 in
theorem row_no6 (c : Col) (b0 : Int) (B g cap n : Nat) (w : World) (hB : B < w.heap.size) (hg : g < w.heap.size) (hp : w.cell? ⟨B, 0, none⟩ = some (.slice (some ⟨g, 0, none⟩) n cap)) (hn : (0 : Int) < (n : Int))
    (hb0 : w.cell? ⟨g, 1, none⟩ = some (.int .i64 b0)) (t0 : inB c.a 0 9 = true) (t1 : inB c.b 0 9 = true) (t2 : inB c.i 0 9 = true) (t3 : inB c.d 0 9 = true) (t4 : inB c.o 0 9 = true) (t5 : (c.b == b0) = true) (t6 : (c.a * c.b + c.i == c.d + 10 * c.o) = false) :
    Calls Try.prog 29 #[c.v, .pointer (some ⟨B, 0, none⟩)] w fun e w' => e = .returned (.bool (rRow b0 c)) ∧ Below w.heap.size w w' := by
  have H := Lib.hid (show rRow b0 c = false by cases e : rRow b0 c; rfl; have := (rRow_iff.1 e).2.2; simp [this] at t6)
  have k0 := inB_iff.1 t0
  have k1 := inB_iff.1 t1
  have k2 := inB_iff.1 t2
  have k3 := inB_iff.1 t3
  have k4 := inB_iff.1 t4
  have km := mul_le81 k0 k1
  have e1 : IntKind.i64.wrap (c.a * c.b) = c.a * c.b := IntWalk.i64_in _ (by omega)
  have e2 : IntKind.i64.wrap (c.a * c.b + c.i) = c.a * c.b + c.i := IntWalk.i64_in _ (by omega)
  have e3 : IntKind.i64.wrap (10 * c.o) = 10 * c.o := IntWalk.i64_in _ (by omega)
  have e4 : IntKind.i64.wrap (c.d + 10 * c.o) = c.d + 10 * c.o := IntWalk.i64_in _ (by omega)
  rw [show c.v = .agg #[.int .i64 c.a, .int .i64 c.b, .int .i64 c.i, .int .i64 c.d, .int .i64 c.o] from rfl]
  go_enter Try.func29, Try.ntmps29
  go_wp2_with fail
  go_quiet ((go_at_call 30; first | (refine quiet_left (i_isDigit_t _ _ ?_); assumption) | (refine quiet_left (i_isDigit_f _ _ ?_); assumption)))
  go_wp2
  go_ret
  exact ⟨ret_bool H.out.symm, below_drewN ((Below.refl _ _).alloc (Nat.le_refl _) _) _⟩
set_option maxHeartbeats 1600000 in
theorem row_yes (c : Col) (b0 : Int) (B g cap n : Nat) (w : World) (hB : B < w.heap.size) (hg : g < w.heap.size) (hp : w.cell? ⟨B, 0, none⟩ = some (.slice (some ⟨g, 0, none⟩) n cap)) (hn : (0 : Int) < (n : Int))
    (hb0 : w.cell? ⟨g, 1, none⟩ = some (.int .i64 b0)) (t0 : inB c.a 0 9 = true) (t1 : inB c.b 0 9 = true) (t2 : inB c.i 0 9 = true) (t3 : inB c.d 0 9 = true) (t4 : inB c.o 0 9 = true) (t5 : (c.b == b0) = true) (t6 : (c.a * c.b + c.i == c.d + 10 * c.o) = true) :
    Calls Try.prog 29 #[c.v, .pointer (some ⟨B, 0, none⟩)] w fun e w' => e = .returned (.bool (rRow b0 c)) ∧ Below w.heap.size w w' := by
  have H := Lib.hid (show rRow b0 c = true from rRow_iff.2 ⟨by rw [goodB_eq, t0, t1, t2, t3, t4]; rfl, by simpa using t5, by simpa using t6⟩)
  have k0 := inB_iff.1 t0
  have k1 := inB_iff.1 t1
  have k2 := inB_iff.1 t2
  have k3 := inB_iff.1 t3
  have k4 := inB_iff.1 t4
  have km := mul_le81 k0 k1
  have e1 : IntKind.i64.wrap (c.a * c.b) = c.a * c.b := IntWalk.i64_in _ (by omega)
  have e2 : IntKind.i64.wrap (c.a * c.b + c.i) = c.a * c.b + c.i := IntWalk.i64_in _ (by omega)
  have e3 : IntKind.i64.wrap (10 * c.o) = 10 * c.o := IntWalk.i64_in _ (by omega)
  have e4 : IntKind.i64.wrap (c.d + 10 * c.o) = c.d + 10 * c.o := IntWalk.i64_in _ (by omega)
  rw [show c.v = .agg #[.int .i64 c.a, .int .i64 c.b, .int .i64 c.i, .int .i64 c.d, .int .i64 c.o] from rfl]
  go_enter Try.func29, Try.ntmps29
  go_wp2_with fail
  go_quiet ((go_at_call 30; first | (refine quiet_left (i_isDigit_t _ _ ?_); assumption) | (refine quiet_left (i_isDigit_f _ _ ?_); assumption)))
  go_wp2
  go_ret
  exact ⟨ret_bool H.out.symm, below_drewN ((Below.refl _ _).alloc (Nat.le_refl _) _) _⟩
theorem i_rRow (c : Col) (b0 : Int) (B g cap n : Nat) (w : World) (hB : B < w.heap.size) (hg : g < w.heap.size) (hp : w.cell? ⟨B, 0, none⟩ = some (.slice (some ⟨g, 0, none⟩) n cap)) (hn : (0 : Int) < (n : Int))
    (hb0 : w.cell? ⟨g, 1, none⟩ = some (.int .i64 b0)) :
    Calls Try.prog 29 #[c.v, .pointer (some ⟨B, 0, none⟩)] w fun e w' => e = .returned (.bool (rRow b0 c)) ∧ Below w.heap.size w w' := by
  cases t0 : inB c.a 0 9
  · exact row_no0 c b0 B g cap n w hB hg hp hn hb0 t0
  cases t1 : inB c.b 0 9
  · exact row_no1 c b0 B g cap n w hB hg hp hn hb0 t0 t1
  cases t2 : inB c.i 0 9
  · exact row_no2 c b0 B g cap n w hB hg hp hn hb0 t0 t1 t2
  cases t3 : inB c.d 0 9
  · exact row_no3 c b0 B g cap n w hB hg hp hn hb0 t0 t1 t2 t3
  cases t4 : inB c.o 0 9
  · exact row_no4 c b0 B g cap n w hB hg hp hn hb0 t0 t1 t2 t3 t4
  cases t5 : (c.b == b0)
  · exact row_no5 c b0 B g cap n w hB hg hp hn hb0 t0 t1 t2 t3 t4 t5
  cases t6 : (c.a * c.b + c.i == c.d + 10 * c.o)
  · exact row_no6 c b0 B g cap n w hB hg hp hn hb0 t0 t1 t2 t3 t4 t5 t6
  exact row_yes c b0 B g cap n w hB hg hp hn hb0 t0 t1 t2 t3 t4 t5 t6
end Go.Proofs.Ytcmpbdmpdodbfaa
