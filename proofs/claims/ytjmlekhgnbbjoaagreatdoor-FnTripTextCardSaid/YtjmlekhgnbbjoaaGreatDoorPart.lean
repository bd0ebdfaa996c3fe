/- The contracts of MoneyPart, as the program and the reference have it. No condition. -/
import Derived.Test.YtjmlekhgnbbjoaaGreatDoorMoney
import Derived.Deep.QuietTactic
import Derived.BigQuiet
namespace Go.Proofs.YtjmlekhgnbbjoaaGreatDoor
open Go.RowKit
namespace My

/-- A callee that leaves the world alone, met in a quiet region. -/
theorem quietS {P : Program} {f : FuncId} {args : Array Value} {w : World} {n : Nat} {v : Value}
    (h : Calls P f args (w.drewN n) fun e w' => e = .returned v ∧ w.drewN n = w') : Calls P f args (w.drewN n) fun e w'' => e = .returned v ∧ ∃ m, w'' = w.drewN m :=
  h.mono fun _ _ ⟨he, hm⟩ => ⟨he, n, hm.symm⟩

def nearB (x d : Int) : Bool := decide (d < 2 * (x % d)) || (decide (2 * (x % d) = d) && decide (x / d % 2 = 1))
def nearI (x d : Int) : Int := if nearB x d then x / d + 1 else x / d
def absI (n : Int) : Int := if n < 0 then -n else n

theorem div_facts (x d : Int) (h0 : 0 ≤ x) (hd : 1 ≤ d) : 0 ≤ x / d ∧ x / d ≤ x ∧ 0 ≤ x % d ∧ x % d < d := by
  refine ⟨Int.ediv_nonneg h0 (by omega), ?_, Int.emod_nonneg _ (by omega), Int.emod_lt_of_pos _ (by omega)⟩
  exact Int.ediv_le_self _ h0

theorem nearI_bd (x d : Int) (h0 : 0 ≤ x) (hd : 1 ≤ d) : 0 ≤ nearI x d ∧ nearI x d ≤ x + 1 := by
  obtain ⟨a, b, _, _⟩ := div_facts x d h0 hd
  unfold nearI; split <;> omega

theorem nearI_lo (x d : Int) (h : 2 * (x % d) ≤ d) (h2 : ¬ 2 * (x % d) = d) : nearI x d = x / d := by
  unfold nearI nearB; rw [if_neg]; simp only [Bool.or_eq_true, Bool.and_eq_true, decide_eq_true_eq]; omega

theorem near_cases (x d : Int) : (d < 2 * (x % d) ∧ nearI x d = x / d + 1) ∨ (2 * (x % d) = d ∧ x / d % 2 = 1 ∧ nearI x d = x / d + 1) ∨
    (2 * (x % d) = d ∧ ¬ x / d % 2 = 1 ∧ nearI x d = x / d) ∨ (2 * (x % d) < d ∧ nearI x d = x / d) := by
  unfold nearI nearB
  simp only [Bool.or_eq_true, Bool.and_eq_true, decide_eq_true_eq]
  split <;> omega

/-- MoneyPart, where its arguments are in range. -/
def partG (a n m : Int) : Bool := mOk a && inB n 0 1000000 && inB m 1 1000000
def partQ (a n m : Int) : Int := if a < 0 then -(nearI (absI a * n) m) else nearI (absI a * n) m
def partB (a n m : Int) : Bool := partG a n m && mOk (partQ a n m)
def partV (a n m : Int) : Int := if partB a n m then partQ a n m else 0

theorem mul_bd (a n : Int) (h0 : 0 ≤ a) (h1 : a ≤ 1000000000000) (k0 : 0 ≤ n) (k1 : n ≤ 1000000) : 0 ≤ a * n ∧ a * n ≤ 1000000000000000000 := by
  refine ⟨Int.mul_nonneg h0 k0, ?_⟩
  calc a * n ≤ 1000000000000 * n := Int.mul_le_mul_of_nonneg_right h1 k0
    _ ≤ 1000000000000 * 1000000 := Int.mul_le_mul_of_nonneg_left k1 (by omega)
    _ = 1000000000000000000 := by decide

theorem absI_bd (a : Int) (h : -1000000000000 ≤ a ∧ a ≤ 1000000000000) : 0 ≤ absI a ∧ absI a ≤ 1000000000000 := by unfold absI; omega

end My
end Go.Proofs.YtjmlekhgnbbjoaaGreatDoor
