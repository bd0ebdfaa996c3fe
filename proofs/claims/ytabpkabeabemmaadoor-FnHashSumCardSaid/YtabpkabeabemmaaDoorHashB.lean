/- SHA-256: turns. -/
import Derived.Test.YtabpkabeabemmaaDoorRows
import Derived.WalkKit
import Derived.WalkSmall
import Derived.BigQuiet
import Derived.Lib.Hide
import Derived.Below
import Derived.Laws.BitsAllLaws
import Derived.Laws.Closers25b
namespace Go.Proofs.YtabpkabeabemmaaDoor
open Go.RowKit
set_option linter.unusedVariables false
namespace My

/-- x turned to the right by n. -/
def rotN (n : Int) (x : Int) : Int := bits .or .u32 (x / 2 ^ n.toNat) (x * 2 ^ (32 - n).toNat % 4294967296)
def isTurn (n : Int) : Prop := n = 2 ∨ n = 6 ∨ n = 7 ∨ n = 11 ∨ n = 13 ∨ n = 17 ∨ n = 18 ∨ n = 19 ∨ n = 22 ∨ n = 25
theorem rotN_lo (n x : Int) : 0 ≤ rotN n x := bits_lo_u32 _ _ _
theorem rotN_hi (n x : Int) : rotN n x ≤ 4294967295 := bits_hi_u32 _ _ _
theorem or_comm32 (a b : Int) (h1 : 0 ≤ a) (h2 : a < 4294967296) (h3 : 0 ≤ b) (h4 : b < 4294967296) : bits .or .u32 a b = bits .or .u32 b a := by
  rw [u32_or a b h1 h2 h3 h4, u32_or b a h3 h4 h1 h2, Nat.or_comm]

set_option maxHeartbeats 4000000 in
theorem turn_any (x n : Int) (w : World) (h0 : 0 ≤ x) (h1 : x ≤ 4294967295) (hn : isTurn n) : Calls Tryd.prog 30 #[.int .u32 x, .int .i64 n] w fun e w' => e = .returned (.int .u32 (rotN n x)) ∧ ∃ z, w' = w.drewN z := by
  unfold isTurn at hn
  rcases hn with rfl | rfl | rfl | rfl | rfl | rfl | rfl | rfl | rfl | rfl
  all_goals
    go_enter Tryd.func30, Tryd.ntmps30
    go_wp2_with fail
    go_quiet (fail)
    go_wp2_with fail
    go_ret
    exact ⟨rfl, _, rfl⟩

theorem rotl_fin (x d m n : Int) (h0 : 0 ≤ x) (h1 : x ≤ 4294967295) (hd : 1 ≤ d) (ed : d = 2 ^ n.toNat) (em : m = 2 ^ (32 - n).toNat) :
    Ending.returned (.int .u32 (bits .or .u32 (x * m % 4294967296) (x / d))) = .returned (.int .u32 (rotN n x)) := by
  have h2 : 0 ≤ x / d := Int.ediv_nonneg h0 (by omega)
  have h3 : x / d ≤ x := Int.ediv_le_self _ h0
  unfold rotN
  rw [← ed, ← em, or_comm32 _ _ (by omega) (by omega) h2 (by omega)]

set_option maxHeartbeats 4000000 in
theorem rotl_any (x n : Int) (w : World) (h0 : 0 ≤ x) (h1 : x ≤ 4294967295) (hn : isTurn n) : Calls Tryd.prog 35 #[.int .u32 x, .int .i64 (-n)] w fun e w' => e = .returned (.int .u32 (rotN n x)) ∧ w' = w := by
  unfold isTurn at hn
  have e2 : bits .and .u64 (IntKind.u64.wrap (-2)) 31 = 30 := by decide
  have e6 : bits .and .u64 (IntKind.u64.wrap (-6)) 31 = 26 := by decide
  have e7 : bits .and .u64 (IntKind.u64.wrap (-7)) 31 = 25 := by decide
  have e11 : bits .and .u64 (IntKind.u64.wrap (-11)) 31 = 21 := by decide
  have e13 : bits .and .u64 (IntKind.u64.wrap (-13)) 31 = 19 := by decide
  have e17 : bits .and .u64 (IntKind.u64.wrap (-17)) 31 = 15 := by decide
  have e18 : bits .and .u64 (IntKind.u64.wrap (-18)) 31 = 14 := by decide
  have e19 : bits .and .u64 (IntKind.u64.wrap (-19)) 31 = 13 := by decide
  have e22 : bits .and .u64 (IntKind.u64.wrap (-22)) 31 = 10 := by decide
  have e25 : bits .and .u64 (IntKind.u64.wrap (-25)) 31 = 7 := by decide
  rcases hn with rfl | rfl | rfl | rfl | rfl | rfl | rfl | rfl | rfl | rfl
  all_goals
    go_enter Tryd.func35, Tryd.ntmps35
    go_wp2_with fail
    go_ret
    exact ⟨rotl_fin x _ _ _ h0 h1 (by decide) (by decide) (by decide), rfl⟩

set_option maxHeartbeats 4000000 in
theorem right_any (x n : Int) (w : World) (h0 : 0 ≤ x) (h1 : x ≤ 4294967295) (hn : isTurn n) : Calls Tryd.prog 25 #[.int .u32 x, .int .i64 n] w fun e w' => e = .returned (.int .u32 (rotN n x)) ∧ w' = w := by
  have HR := Lib.hid (rotl_any x n w h0 h1 hn)
  have hb : 2 ≤ n ∧ n ≤ 25 := by unfold isTurn at hn; omega
  clear hn
  go_enter Tryd.func25, Tryd.ntmps25
  go_wp2_with fail
  refine HR.out.mono ?_
  rintro e w' ⟨rfl, rfl⟩
  go_wp2_with fail
  go_ret
  exact ⟨rfl, rfl⟩
end My
end Go.Proofs.YtabpkabeabemmaaDoor
