/- What the rows' lists of variables give. -/
import Derived.Test.YtjmlekhgnbbjoaaGreatDoorMoneyW
import Derived.Lib.LaidTab
import Derived.Stop.LaidErr
import Derived.MakeChecks
namespace Go.Proofs.YtjmlekhgnbbjoaaGreatDoor
open Go.RowKit
set_option linter.unusedVariables false
namespace My

theorem gPow : Tryz.prog.globalNamed "internal/strconv.uint64pow10" = some 3 := by kernel_rfl
theorem gPowType : (Tryz.prog.globals[3]?).map (·.type) = some 124 := by kernel_rfl
theorem cellsU64 : Tryz.prog.cellsOf 105 = 1 := by kernel_rfl
theorem cellsPow : Tryz.prog.cellsOf 124 = 20 := by kernel_rfl
theorem envT_of {W : World} {r : List (String × DataW Unit)} (h : laidMet Tryz.prog (("internal/strconv.uint64pow10", Rows.laid_internal_strconv_uint64pow10) :: r) W) : EnvT W :=
  Lib.tabIs_of_head (rest := r) (zs := Lib.pow10Tab) (k := .u64) gPow gPowType Tryz.underlying124 Tryz.underlying105 cellsU64 cellsPow h
/-- Three variables listed: the table alone is wanted. -/
abbrev Env3 (W : World) : Prop := EnvT W

end My
end Go.Proofs.YtjmlekhgnbbjoaaGreatDoor
