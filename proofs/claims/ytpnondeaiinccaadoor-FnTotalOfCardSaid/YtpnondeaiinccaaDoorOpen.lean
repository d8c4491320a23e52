/- Walks of l20Open and of the drawings of one text: nothing is said of the text but that it is short. -/
import Derived.Test.YtpnondeaiinccaaDoorDraw1
import Derived.Test.YtpnondeaiinccaaDoorView2
namespace Go.Proofs.YtpnondeaiinccaaDoor
open Go.RowKit
set_option linter.unusedVariables false
set_option maxRecDepth 100000
theorem below_blk {B R : Nat} {w w' : World} (h : Below B w w') : True := trivial
/-- a reader of its own, made in this call -/
def OpenPost (w : World) (e : Ending) (w' : World) : Prop := ∃ R, e = .returned (.pointer (some ⟨R, 0, none⟩)) ∧ w.heap.size ≤ R ∧ Rdr w' R 0 ∧ Below w.heap.size w w'
theorem rdr_new {w : World} {a : Option Addr} {len cap n c : Nat} {zs : List Int} (h : IsBytes w a len cap zs) (hn : n ≤ len) (h2 : n ≤ 2000) :
    Rdr (w.alloc (.cells #[.slice a n c, .int .i64 0] 69)) w.heap.size 0 := by
  obtain ⟨_, h1, _, hb, hc⟩ := h
  refine ⟨a, n, c, heap_alloc_new w _, h2, fun h0 => ?_⟩
  obtain ⟨bb, off, rfl, hbb, hcell⟩ := hc (fun e => by rw [e] at h1; simp at h1; omega)
  refine ⟨bb, off, rfl, hbb, fun j hj => ?_⟩
  obtain ⟨z, hz⟩ : ∃ z, zs[j]? = some z := ⟨_, List.getElem?_eq_getElem (by omega)⟩
  obtain ⟨z0, z1⟩ := hb j z hz
  refine ⟨z.toNat, by omega, ?_⟩
  have e : ((z.toNat : Nat) : Int) = z := by omega
  rw [e]
  exact (((Below.refl w.heap.size w).alloc (Nat.le_refl _) _).cell (p := ⟨bb, off + j, none⟩) hbb).trans (hcell j z hz)
set_option maxHeartbeats 800000 in
theorem s_open (a : Option Addr) (len cap : Nat) (zs : List Int) (w : World) (h : IsBytes w a len cap zs) (hl : len ≤ 1048576) :
    Calls Tryd.prog 53 #[.slice a len cap] w (OpenPost w) := by
  have hcap := h.1.1
  have hc := h.1.2
  unfold maxLen at hc
  have HZ := Lib.hid h
  by_cases h2 : 2000 < len
  · go_enter Tryd.func53, Tryd.ntmps53
    go_wp2
    go_ret
    exact ⟨_, rfl, Nat.le_refl _, rdr_new HZ.out (by omega) (by omega), (Below.refl _ _).alloc (Nat.le_refl _) _⟩
  · go_enter Tryd.func53, Tryd.ntmps53
    go_wp2
    go_ret
    exact ⟨_, rfl, Nat.le_refl _, rdr_new HZ.out (by omega) (by omega), (Below.refl _ _).alloc (Nat.le_refl _) _⟩
/-- some short text, nothing old changed -/
def TextPost (w : World) (e : Ending) (w' : World) : Prop := ∃ t : ByteArray, t.size ≤ 11 ∧ e = .returned (.string t) ∧ Below w.heap.size w w'
theorem l_alive (w : World) : Calls Tryd.prog 16 #[] w fun e w' => e = .returned (.bool true) ∧ w = w' := by
  have t1 : numOkS ⟨#[48]⟩ = true := rfl
  have t2 : numOkS ⟨#[48, 49]⟩ = false := rfl
  go_enter Tryd.func16, Tryd.ntmps16
  go_wp2_with (go_at_call 27; refine (i_numeralOk _ _ (by decide)).mono ?_; rintro e w' ⟨rfl, rfl⟩)
  go_ret
  exact ⟨rfl, rfl⟩
end Go.Proofs.YtpnondeaiinccaaDoor
