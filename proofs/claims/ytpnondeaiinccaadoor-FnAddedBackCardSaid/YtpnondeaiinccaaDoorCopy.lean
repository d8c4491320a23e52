/- Walks of the laws' own helpers on columns: szColumnS, toColumn, toColumnS, eqColumn, eqColumnS. -/
import Derived.Test.YtpnondeaiinccaaDoorCol1
import Derived.Test.YtpnondeaiinccaaDoorView
import Derived.LoopTactic
import Derived.Deep.RegionHeld3
import Derived.Laws.MakeOwn
namespace Go.Proofs.YtpnondeaiinccaaDoor
open Go.RowKit
theorem IsCols.below {w w' : World} {a : Option Addr} {len cap : Nat} {cs : List Col} (h : IsCols w a len cap cs) (hb : Below w.heap.size w w') : IsCols w' a len cap cs := by
  obtain ⟨h1, h2, h3, h4⟩ := h
  refine ⟨h1, h2, h3, fun hne => ?_⟩
  obtain ⟨b, off, ha, hbl, hc⟩ := h4 hne
  have := hb.size
  refine ⟨b, off, ha, by omega, fun k c hk => ?_⟩
  obtain ⟨g0, g1, g2, g3, g4⟩ := hc k c hk
  exact ⟨(hb.cell (p := ⟨b, _, none⟩) hbl).trans g0, (hb.cell (p := ⟨b, _, none⟩) hbl).trans g1, (hb.cell (p := ⟨b, _, none⟩) hbl).trans g2, (hb.cell (p := ⟨b, _, none⟩) hbl).trans g3, (hb.cell (p := ⟨b, _, none⟩) hbl).trans g4⟩
theorem Col.val_eq (c : Col) : c.v = .agg #[.int .i64 c.a, .int .i64 c.b, .int .i64 c.i, .int .i64 c.d, .int .i64 c.o] := rfl
def szI (left : Int) (n : Nat) : Int := if left - n < 0 then -1 else left - n
theorem szI_big {n : Nat} (h : 1048576 < n) : szI 1048576 n < 0 := by unfold szI; rw [if_pos (by omega)]; omega
theorem szI_fits {n : Nat} (h : n ≤ 1048576) : 0 ≤ szI 1048576 n := by unfold szI; rw [if_neg (by omega)]; omega
theorem szI_neg {left : Int} {n : Nat} (h : left - n < 0) : szI left n = -1 := by simp [szI, h]
theorem szI_pos {left : Int} {n : Nat} (h : ¬ left - n < 0) : szI left n = left - n := by unfold szI; rw [if_neg h]
theorem info_impl : (Tryd.prog.info? 44).map (fun i => (i.zero, i.size, i.bytes)) = some (some (.agg #[.int .i64 0, .int .i64 0, .int .i64 0, .int .i64 0, .int .i64 0]), 5, 40) := by kernel_rfl
theorem run_make_rowN {P : Program} (t e : TypeId) (i : TypeInfo) (z : Value) (ht : P.underlying t = some (.slice e)) (hi : P.info? e = some i) (hz : i.zero = some z)
    (kl kc : IntKind) (n c : Nat) (hnc : n ≤ c) (hbytes : i.bytes * c ≤ 281474976710656) (h63 : c ≤ 9223372036854775807) (w : World) :
    (Instr.makeSlice t (.int kl (n : Int)) (.int kc (c : Int))).run P w = .ok (.slice (some ⟨w.heap.size, 0, none⟩) n c) (w.alloc (.cells (madeCells z.cells (c * i.size)) e)) := by
  have hb : (i.bytes : Int) * (c : Int) ≤ 281474976710656 := by
    have h : ((i.bytes * c : Nat) : Int) ≤ 281474976710656 := by omega
    rwa [Int.natCast_mul] at h
  have hr := run_make (P := P) w t e i z ht hi hz kl kc n c (by omega) (by omega) hb (by omega)
  simp only [Int.toNat_natCast] at hr
  exact hr
theorem arr_some {a : Array Value} {j : Nat} (h : j < a.size) : ∃ v, a[j]? = some v := ⟨_, Array.getElem?_eq_getElem h⟩
end Go.Proofs.YtpnondeaiinccaaDoor
