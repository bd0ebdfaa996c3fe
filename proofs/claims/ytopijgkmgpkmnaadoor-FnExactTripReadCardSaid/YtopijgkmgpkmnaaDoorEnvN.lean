/- What five listed variables give. -/
import Derived.Test.YtopijgkmgpkmnaaDoorNum
import Derived.Stop.LaidErr
namespace Go.Proofs.YtopijgkmgpkmnaaDoor
open Go.RowKit
set_option linter.unusedVariables false
namespace My

theorem gSyn : Tryd.prog.globalNamed "strconv.ErrSyntax" = some 1 := by kernel_rfl
theorem gSynType : (Tryd.prog.globals[1]?).map (·.type) = some 55 := by kernel_rfl
theorem gRng : Tryd.prog.globalNamed "strconv.ErrRange" = some 2 := by kernel_rfl
theorem gRngType : (Tryd.prog.globals[2]?).map (·.type) = some 55 := by kernel_rfl
theorem cellsES : Tryd.prog.cellsOf 133 = 1 := by kernel_rfl
theorem cellsStr1 : Tryd.prog.cellsOf 9 = 1 := by kernel_rfl
theorem starES : "*" ++ "errors.errorString" = "*errors.errorString" := by decide
theorem rowES (u : TypeId) (h : Tryd.prog.typeName? 3 u = some "*errors.errorString") : u = 131 :=
  typeName_ptr_named (nm := "errors.errorString") (by rw [starES]; kernel_rfl) (by kernel_rfl) (by decide) u (by rw [starES]; exact h)
theorem errAt_syn {W : World} {text : List UInt8} {r : List (String × DataW Unit)} (h : laidMet Tryd.prog (("strconv.ErrSyntax", .iface "*errors.errorString" (.ptr (.agg [.lit (.string text)]))) :: r) W) : ErrAt W "strconv.ErrSyntax" := by
  obtain ⟨a, s, hv, _, _, _⟩ := laid_sentinel h gSyn gSynType Tryd.underlying55 rowES Tryd.underlying131 Tryd.underlying133 rfl rfl Tryd.underlying9 cellsES cellsStr1
  exact ⟨_, _, hv⟩
theorem errAt_rng {W : World} {text : List UInt8} {r : List (String × DataW Unit)} (h : laidMet Tryd.prog (("strconv.ErrRange", .iface "*errors.errorString" (.ptr (.agg [.lit (.string text)]))) :: r) W) : ErrAt W "strconv.ErrRange" := by
  obtain ⟨a, s, hv, _, _, _⟩ := laid_sentinel h gRng gRngType Tryd.underlying55 rowES Tryd.underlying131 Tryd.underlying133 rfl rfl Tryd.underlying9 cellsES cellsStr1
  exact ⟨_, _, hv⟩
abbrev Env5 (W : World) : Prop := EnvN W
theorem env_5 {W : World} (h : laidMetH Tryd.prog Rows.fnExactWireGetRow.laid W) (hs : W.ShapedOpen Tryd.prog) : Env5 W := by
  rw [MakeChecks.laidMetH_plain _ _ _ (by kernel_rfl)] at h
  have h1 := laidMet.tail (laidMet.tail h)
  have h2 := laidMet.tail h1
  exact ⟨envT_of h1, errAt_syn (laidMet.tail h2), errAt_rng h2, hs⟩

end My
end Go.Proofs.YtopijgkmgpkmnaaDoor
