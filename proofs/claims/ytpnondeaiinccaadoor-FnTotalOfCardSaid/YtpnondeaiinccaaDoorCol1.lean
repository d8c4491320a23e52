/- Walks of the small functions on columns: in, isDigit, single and the functions of the reference beside them, and the closures that tell whether a column is right. -/
import Derived.Test.YtpnondeaiinccaaDoorNumOk
import Derived.Test.YtpnondeaiinccaaDoorMem
namespace Go.Proofs.YtpnondeaiinccaaDoor
open Go.RowKit
def Col.v (c : Col) : Value := .agg #[.int .i64 c.a, .int .i64 c.b, .int .i64 c.i, .int .i64 c.d, .int .i64 c.o]

theorem inB_lo {n lo hi : Int} (h : ¬ lo ≤ n) : inB n lo hi = false := inB_no fun x => h x.1
theorem inB_hi {n lo hi : Int} (h : ¬ n ≤ hi) : inB n lo hi = false := inB_no fun x => h x.2
theorem i_in (n lo hi : Int) (w : World) : Calls Tryd.prog 67 #[.int .i64 n, .int .i64 lo, .int .i64 hi] w fun e w' => e = .returned (.bool (inB n lo hi)) ∧ w = w' := by
  by_cases h1 : lo ≤ n
  · by_cases h2 : n ≤ hi
    · have H := Lib.hid (inB_iff.2 ⟨h1, h2⟩)
      go_enter Tryd.func67, Tryd.ntmps67
      go_wp2
      go_ret
      exact ⟨ret_bool H.out.symm, rfl⟩
    · have H := Lib.hid (inB_hi (lo := lo) h2)
      have h3 : hi < n := by omega
      go_enter Tryd.func67, Tryd.ntmps67
      go_wp2
      go_ret
      exact ⟨ret_bool H.out.symm, rfl⟩
  · have H := Lib.hid (inB_lo (hi := hi) h1)
    have h3 : n < lo := by omega
    go_enter Tryd.func67, Tryd.ntmps67
    go_wp2
    go_ret
    exact ⟨ret_bool H.out.symm, rfl⟩
theorem s_in (n lo hi : Int) (w : World) : Calls Tryd.prog 75 #[.int .i64 n, .int .i64 lo, .int .i64 hi] w fun e w' => e = .returned (.bool (inB n lo hi)) ∧ w = w' := by
  by_cases h1 : lo ≤ n
  · by_cases h2 : n ≤ hi
    · have H := Lib.hid (inB_iff.2 ⟨h1, h2⟩)
      go_enter Tryd.func75, Tryd.ntmps75
      go_wp2
      go_ret
      exact ⟨ret_bool H.out.symm, rfl⟩
    · have H := Lib.hid (inB_hi (lo := lo) h2)
      have h3 : hi < n := by omega
      go_enter Tryd.func75, Tryd.ntmps75
      go_wp2
      go_ret
      exact ⟨ret_bool H.out.symm, rfl⟩
  · have H := Lib.hid (inB_lo (hi := hi) h1)
    have h3 : n < lo := by omega
    go_enter Tryd.func75, Tryd.ntmps75
    go_wp2
    go_ret
    exact ⟨ret_bool H.out.symm, rfl⟩
theorem i_isDigit (n : Int) (w : World) : Calls Tryd.prog 97 #[.int .i64 n] w fun e w' => e = .returned (.bool (inB n 0 9)) ∧ w = w' := by
  go_enter Tryd.func97, Tryd.ntmps97
  go_wp2_with (go_at_call 67; refine (i_in _ _ _ _).mono ?_; rintro e w' ⟨rfl, rfl⟩)
  go_ret
  exact ⟨rfl, rfl⟩
set_option maxHeartbeats 800000 in
theorem i_single (c : Col) (w : World) : Calls Tryd.prog 70 #[c.v] w fun e w' => e = .returned (.bool (singleB c)) ∧ Below w.heap.size w w' := by
  have H := Lib.hid (show singleB c = (inB c.a 0 9 && inB c.b 0 9 && inB c.i 0 1 && inB c.d 0 9 && inB c.o 0 1) from rfl)
  unfold Col.v
  go_enter Tryd.func70, Tryd.ntmps70
  go_wp2_with (first | (go_at_call 67; refine (i_in _ _ _ _).mono ?_; rintro e w' ⟨rfl, rfl⟩) | (go_at_call 97; refine (i_isDigit _ _).mono ?_; rintro e w' ⟨rfl, rfl⟩))
  all_goals
    go_ret
    exact ⟨ret_bool (by rw [H.out]; simp [*]), (Below.refl _ _).alloc (Nat.le_refl _) _⟩
set_option maxHeartbeats 800000 in
theorem s_digits (c : Col) (w : World) : Calls Tryd.prog 74 #[c.v] w fun e w' => e = .returned (.bool (singleB c)) ∧ Below w.heap.size w w' := by
  have H := Lib.hid (show singleB c = (inB c.a 0 9 && inB c.b 0 9 && inB c.i 0 1 && inB c.d 0 9 && inB c.o 0 1) from rfl)
  unfold Col.v
  go_enter Tryd.func74, Tryd.ntmps74
  go_wp2_with (go_at_call 75; refine (s_in _ _ _ _).mono ?_; rintro e w' ⟨rfl, rfl⟩)
  all_goals
    go_ret
    exact ⟨ret_bool (by rw [H.out]; simp [*]), (Below.refl _ _).alloc (Nat.le_refl _) _⟩
set_option maxHeartbeats 800000 in
/-- the closure of WrongColumn -/
theorem i_rAdd (c : Col) (w : World) : Calls Tryd.prog 80 #[c.v] w fun e w' => e = .returned (.bool (rAdd c)) ∧ Below w.heap.size w w' := by
  by_cases hs : singleB c = true
  · obtain ⟨ha, hb, hi, hd, ho⟩ := singleB_iff.1 hs
    by_cases he : c.a + c.b + c.i = c.d + 10 * c.o
    · have H := Lib.hid (rAdd_iff.2 ⟨hs, he⟩)
      have ht : (c.a + c.b + c.i == c.d + 10 * c.o) = true := by simp; exact he
      have V := Lib.hid (show c.v = .agg #[.int .i64 c.a, .int .i64 c.b, .int .i64 c.i, .int .i64 c.d, .int .i64 c.o] from rfl)
      clear he
      rw [V.out]
      go_enter Tryd.func80, Tryd.ntmps80
      go_wp2_with (go_at_call 70; refine (i_single c _).mono ?_; rintro e w1 ⟨rfl, hb1⟩; obtain ⟨hc, hf⟩ := bcell hb1)
      go_ret
      exact ⟨ret_bool H.out.symm, ((Below.refl _ _).alloc (Nat.le_refl _) _).trans (hb1.mono (by simp))⟩
    · have H := Lib.hid (show rAdd c = false by cases e : rAdd c; rfl; exact absurd (rAdd_iff.1 e).2 he)
      have ht : (c.a + c.b + c.i == c.d + 10 * c.o) = false := by simp; exact he
      have V := Lib.hid (show c.v = .agg #[.int .i64 c.a, .int .i64 c.b, .int .i64 c.i, .int .i64 c.d, .int .i64 c.o] from rfl)
      clear he
      rw [V.out]
      go_enter Tryd.func80, Tryd.ntmps80
      go_wp2_with (go_at_call 70; refine (i_single c _).mono ?_; rintro e w1 ⟨rfl, hb1⟩; obtain ⟨hc, hf⟩ := bcell hb1)
      go_ret
      exact ⟨ret_bool H.out.symm, ((Below.refl _ _).alloc (Nat.le_refl _) _).trans (hb1.mono (by simp))⟩
  · have hs' : singleB c = false := by simpa using hs
    have H := Lib.hid (show rAdd c = false by cases e : rAdd c; rfl; exact absurd (rAdd_iff.1 e).1 hs)
    have V := Lib.hid (show c.v = .agg #[.int .i64 c.a, .int .i64 c.b, .int .i64 c.i, .int .i64 c.d, .int .i64 c.o] from rfl)
    clear hs
    rw [V.out]
    go_enter Tryd.func80, Tryd.ntmps80
    go_wp2_with (go_at_call 70; refine (i_single c _).mono ?_; rintro e w1 ⟨rfl, hb1⟩; obtain ⟨hc, hf⟩ := bcell hb1)
    go_ret
    exact ⟨ret_bool H.out.symm, ((Below.refl _ _).alloc (Nat.le_refl _) _).trans (hb1.mono (by simp))⟩
set_option maxHeartbeats 800000 in
/-- the closure of WrongTaken -/
theorem i_rTake (c : Col) (w : World) : Calls Tryd.prog 85 #[c.v] w fun e w' => e = .returned (.bool (rTake c)) ∧ Below w.heap.size w w' := by
  by_cases hs : singleB c = true
  · obtain ⟨ha, hb, hi, hd, ho⟩ := singleB_iff.1 hs
    by_cases he : c.a + 10 * c.o = c.b + c.i + c.d
    · have H := Lib.hid (rTake_iff.2 ⟨hs, he⟩)
      have ht : (c.a + 10 * c.o == c.b + c.i + c.d) = true := by simp; exact he
      have V := Lib.hid (show c.v = .agg #[.int .i64 c.a, .int .i64 c.b, .int .i64 c.i, .int .i64 c.d, .int .i64 c.o] from rfl)
      clear he
      rw [V.out]
      go_enter Tryd.func85, Tryd.ntmps85
      go_wp2_with (go_at_call 70; refine (i_single c _).mono ?_; rintro e w1 ⟨rfl, hb1⟩; obtain ⟨hc, hf⟩ := bcell hb1)
      go_ret
      exact ⟨ret_bool H.out.symm, ((Below.refl _ _).alloc (Nat.le_refl _) _).trans (hb1.mono (by simp))⟩
    · have H := Lib.hid (show rTake c = false by cases e : rTake c; rfl; exact absurd (rTake_iff.1 e).2 he)
      have ht : (c.a + 10 * c.o == c.b + c.i + c.d) = false := by simp; exact he
      have V := Lib.hid (show c.v = .agg #[.int .i64 c.a, .int .i64 c.b, .int .i64 c.i, .int .i64 c.d, .int .i64 c.o] from rfl)
      clear he
      rw [V.out]
      go_enter Tryd.func85, Tryd.ntmps85
      go_wp2_with (go_at_call 70; refine (i_single c _).mono ?_; rintro e w1 ⟨rfl, hb1⟩; obtain ⟨hc, hf⟩ := bcell hb1)
      go_ret
      exact ⟨ret_bool H.out.symm, ((Below.refl _ _).alloc (Nat.le_refl _) _).trans (hb1.mono (by simp))⟩
  · have hs' : singleB c = false := by simpa using hs
    have H := Lib.hid (show rTake c = false by cases e : rTake c; rfl; exact absurd (rTake_iff.1 e).1 hs)
    have V := Lib.hid (show c.v = .agg #[.int .i64 c.a, .int .i64 c.b, .int .i64 c.i, .int .i64 c.d, .int .i64 c.o] from rfl)
    clear hs
    rw [V.out]
    go_enter Tryd.func85, Tryd.ntmps85
    go_wp2_with (go_at_call 70; refine (i_single c _).mono ?_; rintro e w1 ⟨rfl, hb1⟩; obtain ⟨hc, hf⟩ := bcell hb1)
    go_ret
    exact ⟨ret_bool H.out.symm, ((Below.refl _ _).alloc (Nat.le_refl _) _).trans (hb1.mono (by simp))⟩
end Go.Proofs.YtpnondeaiinccaaDoor
