/- The table of powers of ten, as a world holds it. -/
import Derived.Test.YthddidjdgbdlbaaDoorRows
import Derived.WalkKit
import Derived.Lib.LaidTab
import Derived.Lib.ItoaNum
import Derived.Lib.AppendIntMem
import Derived.Stop.LaidErr
import Derived.LaidByTextLater
import Derived.Test.YthddidjdgbdlbaaDoorShelf
namespace Go.Proofs.YthddidjdgbdlbaaDoor
open Go.RowKit
def Tab (w : World) : Prop := Lib.TabIs Tryd.prog w "internal/strconv.uint64pow10" .u64 Lib.pow10Tab
theorem tabNamed : Tryd.prog.globalNamed "internal/strconv.uint64pow10" = some 3 := by kernel_rfl
theorem tabType : (Tryd.prog.globals[3]?).map (·.type) = some 137 := by kernel_rfl
theorem Tab.below {w w' : World} (h : Tab w) (hb : Below w.heap.size w w') : Tab w' := by
  unfold Tab Lib.TabIs World.var? at h ⊢
  rw [tabNamed] at h ⊢
  simp only [Option.bind_some] at h ⊢
  have hlt : 3 < w.heap.size := by
    rcases Nat.lt_or_ge 3 w.heap.size with h' | h'
    · exact h'
    · rw [Array.getElem?_eq_none h'] at h; cases h
  rw [hb.block _ hlt]
  exact h
theorem tab_third {a b : String × DataW Unit} {rest : List (String × DataW Unit)} {w : World} (h : laidMet Tryd.prog (a :: b :: ("internal/strconv.uint64pow10", Rows.laid_internal_strconv_uint64pow10) :: rest) w) : Tab w :=
  Lib.tabIs_of_head tabNamed tabType Tryd.underlying137 Tryd.underlying107 (by kernel_rfl) (by kernel_rfl) h.tail.tail
end Go.Proofs.YthddidjdgbdlbaaDoor
