/- What the rows' lists of variables give. -/
import Derived.Test.YtopijgkmgpkmnaaDoorMoneyW
import Derived.Lib.LaidTab
import Derived.Stop.LaidErr
import Derived.MakeChecks
namespace Go.Proofs.YtopijgkmgpkmnaaDoor
open Go.RowKit
set_option linter.unusedVariables false
namespace My

theorem gPow : Tryd.prog.globalNamed "internal/strconv.uint64pow10" = some 5 := by kernel_rfl
theorem gPowType : (Tryd.prog.globals[5]?).map (·.type) = some 126 := by kernel_rfl
theorem cellsU64 : Tryd.prog.cellsOf 96 = 1 := by kernel_rfl
theorem cellsPow : Tryd.prog.cellsOf 126 = 20 := by kernel_rfl
theorem envT_of {W : World} {r : List (String × DataW Unit)} (h : laidMet Tryd.prog (("internal/strconv.uint64pow10", Rows.laid_internal_strconv_uint64pow10) :: r) W) : EnvT W :=
  Lib.tabIs_of_head (rest := r) (zs := Lib.pow10Tab) (k := .u64) gPow gPowType Tryd.underlying126 Tryd.underlying96 cellsU64 cellsPow h
/-- Three variables listed: the table alone is wanted. -/
abbrev Env3 (W : World) : Prop := EnvT W
theorem env_3 {W : World} (h : laidMetH Tryd.prog Rows.fnExactMoneyWriteRow.laid W) (_ : W.ShapedOpen Tryd.prog) : Env3 W := by
  rw [MakeChecks.laidMetH_plain _ _ _ (by kernel_rfl)] at h
  exact envT_of (laidMet.tail (laidMet.tail h))

end My
end Go.Proofs.YtopijgkmgpkmnaaDoor
