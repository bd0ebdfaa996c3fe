/- FnExactMoneyWrite: the walk. -/
import Derived.Test.YtopijgkmgpkmnaaDoorEnv
namespace Go.Proofs.YtopijgkmgpkmnaaDoor
open Go.RowKit Go.Deep
set_option linter.unusedVariables false
namespace My

theorem FnExactMoneyWrite_walk (a0 : Int) (w : World) (_w0 : (Lit.int .i64 a0).wf = true) (henv : Env3 w) :
    Calls Tryd.prog 5 #[.int .i64 a0] w fun e w' => e = .returned (.bool true) ∧ Below w.heap.size w w' := by
  have HE := Lib.hid (show EnvT w from henv)
  clear henv
  go_enter Tryd.func5, Tryd.ntmps5
  go_wp2_with fail
  with_reducible refine (sMoneyWrite_any _ _).mono ?_
  rintro e w1 ⟨rfl, b1⟩
  have B1 := Lib.hid b1
  clear b1
  go_wp2_with fail
  with_reducible refine (iMoneyWrite_any _ _ (HE.out.below B1.out)).mono ?_
  rintro e w2 ⟨rfl, b2⟩
  have B2 := Lib.hid (bT B1.out b2)
  clear b2
  go_wp2_with fail
  go_ret
  exact ⟨rfl, B2.out⟩

end My
end Go.Proofs.YtopijgkmgpkmnaaDoor
