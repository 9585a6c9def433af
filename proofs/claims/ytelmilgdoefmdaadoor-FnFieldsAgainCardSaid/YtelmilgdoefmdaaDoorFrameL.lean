/- What a row that lists the library's tables gives: the table that strconv.Itoa reads. -/
import Derived.Test.YtelmilgdoefmdaaDoorRows
import Derived.Test.YtelmilgdoefmdaaDoorCards
import Derived.Test.YtelmilgdoefmdaaDoorTie
import Derived.Test.YtelmilgdoefmdaaDoorItoa
import Derived.ProofKit
import Derived.OpenShut
import Derived.ShutString
import Derived.ChangeOld
import Derived.Deep.DeepHandedRow
import Derived.Lib.LaidTab
import Derived.Stop.LaidErr
namespace Go.Proofs.YtelmilgdoefmdaaDoor
open Go.ChangeShapes Go.WideShapes Go.ChangeAt Go.RowKit
theorem gTabType : (Tryd.prog.globals[3]?).map (·.type) = some 78 := by kernel_rfl
theorem cellsTab : Tryd.prog.cellsOf 78 = 20 := by kernel_rfl
theorem cellsU64 : Tryd.prog.cellsOf 65 = 1 := by kernel_rfl
theorem tab_head {r : List (String × DataW Unit)} {W : World} (h : laidMet Tryd.prog (("internal/strconv.uint64pow10", Lib.tabData .u64 Lib.pow10Tab) :: r) W) : Tab W :=
  Lib.tabIs_of_head (rest := r) gTab gTabType Tryd.underlying78 Tryd.underlying65 cellsU64 cellsTab h
theorem tab_data : (Lib.tabData .u64 Lib.pow10Tab : DataW Unit) = Rows.laid_internal_strconv_uint64pow10 := by
  unfold Lib.tabData Lib.pow10Tab Rows.laid_internal_strconv_uint64pow10
  simp [List.range_succ]
theorem tab_of {r : List (String × DataW Unit)} {W : World} (h : laidMet Tryd.prog (("math/bits.deBruijn32tab", Rows.laid_math_bits_deBruijn32tab) :: ("math/bits.deBruijn64tab", Rows.laid_math_bits_deBruijn64tab) :: ("internal/strconv.uint64pow10", Rows.laid_internal_strconv_uint64pow10) :: r) W) : Tab W := by
  have h2 := h.tail.tail
  rw [← tab_data] at h2
  exact tab_head h2
end Go.Proofs.YtelmilgdoefmdaaDoor
