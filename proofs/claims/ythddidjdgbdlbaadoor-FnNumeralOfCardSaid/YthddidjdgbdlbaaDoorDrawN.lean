/- The drawing of a number. -/
import Derived.Test.YthddidjdgbdlbaaDoorOpen
import Derived.Test.YthddidjdgbdlbaaDoorLaw4
namespace Go.Proofs.YthddidjdgbdlbaaDoor
open Go.RowKit
set_option linter.unusedVariables false
set_option maxRecDepth 100000
def NumPost (w : World) (e : Ending) (w' : World) : Prop := ∃ n : Int, -1 ≤ n ∧ n ≤ 1000000000 ∧ e = .returned (.int .i64 n) ∧ Below w.heap.size w w'
theorem val_any (s : ByteArray) : -1 ≤ valI s ∧ valI s < 1000000000 := by
  by_cases h : numOkS s = true
  · have := valI_bd h; omega
  · rw [valI_bad (ne_true h)]; omega
theorem six_ints (a b : Int) (k : Nat) (ha : -1 ≤ a ∧ a ≤ 1000000000) (hb : -1 ≤ b ∧ b ≤ 1000000000) (h : k < 6) :
    ∃ d : Int, (-1 ≤ d ∧ d ≤ 1000000000) ∧ (#[Value.int .i64 0, .int .i64 a, .int .i64 b, .int .i64 999999999, .int .i64 1000000000, .int .i64 (-1)] : Array Value)[k]? = some (.int .i64 d) := by
  match k, h with
  | 0, _ => exact ⟨0, by omega, rfl⟩
  | 1, _ => exact ⟨a, ha, rfl⟩
  | 2, _ => exact ⟨b, hb, rfl⟩
  | 3, _ => exact ⟨999999999, by omega, rfl⟩
  | 4, _ => exact ⟨1000000000, by omega, rfl⟩
  | 5, _ => exact ⟨-1, by omega, rfl⟩
set_option maxHeartbeats 1600000 in
theorem s_drawNumeralOf (a : Option Addr) (len cap : Nat) (zs : List Int) (w : World) (h : IsBytes w a len cap zs) (hl : len ≤ 1048576) :
    Calls Tryd.prog 23 #[.slice a len cap] w (NumPost w) := by
  go_enter Tryd.func23, Tryd.ntmps23
  go_wp2_with fail
  refine (s_open a len cap zs _ h hl).mono ?_
  rintro e w1 ⟨R, rfl, hR, hr, hb⟩
  go_wp2_with fail
  refine (s_pickI R 0 250 _ hr (by omega) (by omega) (by omega)).mono ?_
  rintro e w2 ⟨k1, hk1, rfl, hr2, ho2⟩
  go_wp2_with fail
  refine (s_numeral R _ _ _ _ hr2 (by omega) (by omega) (by omega) (by omega) (by omega)).mono ?_
  rintro e w3 ⟨t, p', ht, rfl, hp', hr3, ho3⟩
  have hts : t.size ≤ maxLen := by unfold maxLen; omega
  go_wp2_with fail
  refine (s_valueOf _ _ hts).mono ?_
  rintro e w3' ⟨rfl, rfl⟩
  go_wp2_with fail
  have hr3' := hr3.alloc (.cells #[.int .i64 0, .int .i64 (k1 : Int), .int .i64 (valI t), .int .i64 999999999, .int .i64 1000000000, .int .i64 (-1)] 3)
  have hb3 := Blk.new w3 3 #[.int .i64 0, .int .i64 (k1 : Int), .int .i64 (valI t), .int .i64 999999999, .int .i64 1000000000, .int .i64 (-1)]
  refine (s_pickI R _ 11 _ hr3' (by omega) (by omega) (by omega)).mono ?_
  rintro e w4 ⟨k2, hk2, rfl, hr4, ho4⟩
  have hne : w3.heap.size ≠ R := by have := hr3.lt; omega
  have hv := val_any t
  obtain ⟨d, hd, hdk⟩ := six_ints (k1 : Int) (valI t) (k2 / 2) (by omega) (by omega) (by omega)
  have hcell := ((ho4.blk hb3 hne).cell (k2 / 2)).trans hdk
  have e2 : (k2 : Int).tdiv 2 = ((k2 / 2 : Nat) : Int) := by rw [Int.tdiv_eq_ediv_of_nonneg (by omega)]; rfl
  have hk3 : k2 / 2 < 6 := by omega
  have HOW := Lib.hid ((ho2.trans ho3).trans ((World.grownBy_alloc w3 _ _).trans ho4))
  obtain ⟨q, hq⟩ : ∃ q, q = k2 / 2 := ⟨_, rfl⟩
  rw [← hq] at hcell e2 hk3
  clear hdk hb3 hr3' ho4 hne ho2 ho3 hr2 hr3 hq
  go_wp2_with fail
  go_ret
  exact ⟨d, hd.1, hd.2, rfl, hb.trans (HOW.out.below_ hb.size hR)⟩
end Go.Proofs.YthddidjdgbdlbaaDoor
