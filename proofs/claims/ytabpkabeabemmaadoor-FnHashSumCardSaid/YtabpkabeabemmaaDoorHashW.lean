/- FnExactHashSum: what the listed variables give; the walk. -/
import Derived.Test.YtabpkabeabemmaaDoorHashV
import Derived.Lib.LaidTab
import Derived.Stop.LaidErr
import Derived.MakeChecks
namespace Go.Proofs.YtabpkabeabemmaaDoor
open Go.RowKit Go.Deep
set_option linter.unusedVariables false
namespace My

theorem tab_cells {w : World} {name : String} {k : IntKind} {zs : List Int} {g : Nat} (hg : Tryd.prog.globalNamed name = some g) (h : Lib.TabIs Tryd.prog w name k zs) :
    (∀ i, i < zs.length → w.cell? ⟨g, i, none⟩ = some (.int k (zs.getD i 0))) ∧ g < w.heap.size := by
  unfold Lib.TabIs World.var? at h
  rw [hg] at h
  simp only [Option.bind_some] at h
  split at h
  · rename_i cs t fz hh
    have hc := Option.some.inj h
    subst hc
    refine ⟨fun i hi => ?_, ?_⟩
    · simp only [World.cell?, hh]
      rw [List.getElem?_toArray, List.getElem?_map, List.getElem?_eq_getElem hi, List.getD_eq_getElem?_getD, List.getElem?_eq_getElem hi]
      rfl
    · by_cases hx : g < w.heap.size
      · exact hx
      · rw [Array.getElem?_eq_none (by omega)] at hh; cases hh
  · cases h
def dbL : List Int := [0, 1, 56, 2, 57, 49, 28, 3, 61, 58, 42, 50, 38, 29, 17, 4, 62, 47, 59, 36, 45, 43, 51, 22, 53, 39, 33, 30, 24, 18, 12, 5, 63, 55, 48, 27, 60, 41, 37, 16, 46, 35, 44, 21, 52, 32, 23, 11, 54, 26, 40, 15, 34, 20, 31, 10, 25, 14, 19, 9, 13, 8, 7, 6]
theorem gDb : Tryd.prog.globalNamed "math/bits.deBruijn64tab" = some 5 := by kernel_rfl
theorem gDbType : (Tryd.prog.globals[5]?).map (·.type) = some 83 := by kernel_rfl
theorem gRt : Tryd.prog.globalNamed "loop.example/stopover/impl.roots" = some 0 := by kernel_rfl
theorem gRtType : (Tryd.prog.globals[0]?).map (·.type) = some 30 := by kernel_rfl
theorem gCu : Tryd.prog.globalNamed "loop.example/stopover/impl.cubes" = some 1 := by kernel_rfl
theorem gCuType : (Tryd.prog.globals[1]?).map (·.type) = some 56 := by kernel_rfl
theorem cellsU8 : Tryd.prog.cellsOf 5 = 1 := by kernel_rfl
theorem cellsU32 : Tryd.prog.cellsOf 29 = 1 := by kernel_rfl
theorem cells64u8 : Tryd.prog.cellsOf 83 = 64 := by kernel_rfl
theorem cells8u32 : Tryd.prog.cellsOf 30 = 8 := by kernel_rfl
theorem cells64u32 : Tryd.prog.cellsOf 56 = 64 := by kernel_rfl
theorem env_db {W : World} {r : List (String × DataW Unit)} (h : laidMet Tryd.prog (("math/bits.deBruijn64tab", Rows.laid_math_bits_deBruijn64tab) :: r) W) : Tz W := by
  have h1 : Lib.TabIs Tryd.prog W "math/bits.deBruijn64tab" .u8 dbL := Lib.tabIs_of_head (rest := r) (zs := dbL) (k := .u8) gDb gDbType Tryd.underlying83 Tryd.underlying5 cellsU8 cells64u8 h
  have h2 := tab_cells gDb h1
  exact ⟨h2.1 15 (by decide), h2.2⟩
theorem env_rt {W : World} {r : List (String × DataW Unit)} (h : laidMet Tryd.prog (("loop.example/stopover/impl.roots", Rows.laid_loop_example_stopover_impl_roots) :: r) W) : InU W 0 8 rootF := by
  have h1 : Lib.TabIs Tryd.prog W "loop.example/stopover/impl.roots" .u32 rootL := Lib.tabIs_of_head (rest := r) (zs := rootL) (k := .u32) gRt gRtType Tryd.underlying30 Tryd.underlying29 cellsU32 cells8u32 h
  have h2 := tab_cells gRt h1
  exact ⟨fun i hi => h2.1 i hi, h2.2⟩
theorem env_cu {W : World} {r : List (String × DataW Unit)} (h : laidMet Tryd.prog (("loop.example/stopover/impl.cubes", Rows.laid_loop_example_stopover_impl_cubes) :: r) W) : InU W 1 64 kF := by
  have h1 : Lib.TabIs Tryd.prog W "loop.example/stopover/impl.cubes" .u32 kList := Lib.tabIs_of_head (rest := r) (zs := kList) (k := .u32) gCu gCuType Tryd.underlying56 Tryd.underlying29 cellsU32 cells64u32 h
  have h2 := tab_cells gCu h1
  exact ⟨fun i hi => h2.1 i hi, h2.2⟩
abbrev Env5 (W : World) : Prop := EnvH W
theorem env_5 {W : World} (h : laidMetH Tryd.prog Rows.fnExactHashSumRow.laid W) (_ : W.ShapedOpen Tryd.prog) : Env5 W := by
  rw [MakeChecks.laidMetH_plain _ _ _ (by kernel_rfl)] at h
  have h1 := laidMet.tail h
  have h3 := laidMet.tail (laidMet.tail h1)
  exact ⟨env_rt h3, env_cu (laidMet.tail h3), env_db h1⟩

theorem FnExactHashSum_walk (a0 : ByteArray) (w : World) (_w0 : a0.size ≤ maxLen) (henv : Env5 w) :
    Calls Tryd.prog 3 #[.string a0] w fun e w' => e = .returned (.bool true) ∧ Below w.heap.size w w' := FnExactHashSum_law a0 w henv
end My
end Go.Proofs.YtabpkabeabemmaaDoor
