/- Plain facts on shares. -/
import Derived.Test.YtmjemgelekceoaaShareM
namespace Go.Proofs.Ytmjemgelekceoaa
open Go.RowKit
set_option linter.unusedVariables false
namespace My

theorem quo_rem_sum (T all : Int) (ws : Nat → Int) : ∀ n, all * sumF (quoF T all ws) n + sumF (remF T all ws) n = T * sumF ws n
  | 0 => by simp [sumF]
  | n + 1 => by
    have h := quo_rem_sum T all ws n
    have e := Int.mul_ediv_add_emod (T * ws n) all
    simp only [sumF, quoF, remF, Int.mul_add] at h ⊢
    omega
theorem rest_eq {T all : Int} {ws : Nat → Int} {n : Nat} (he : sumF ws n = all) : all * restF T all ws n = sumF (remF T all ws) n := by
  have h := quo_rem_sum T all ws n
  rw [he] at h
  have c : all * T = T * all := Int.mul_comm _ _
  simp only [restF, Int.mul_sub]
  omega
theorem mul_sign {a b : Int} (ha : 0 < a) (h : 0 ≤ a * b) : 0 ≤ b := by
  rcases Int.lt_or_le b 0 with hb | hb
  · have := Int.mul_le_mul_of_nonneg_left (show b ≤ -1 by omega) (show 0 ≤ a by omega)
    omega
  · exact hb
theorem mul_lt {a b c : Int} (ha : 0 < a) (h : a * b < a * c) : b < c := by
  rcases Int.lt_or_le b c with hb | hb
  · exact hb
  · have := Int.mul_le_mul_of_nonneg_left hb (show 0 ≤ a by omega)
    omega
theorem rest_bd {T all : Int} {ws : Nat → Int} {n : Nat} (he : sumF ws n = all) (ha : 0 < all) (hr : ∀ i, i < n → 0 ≤ remF T all ws i ∧ remF T all ws i < all) (hn : 1 ≤ n) :
    0 ≤ restF T all ws n ∧ restF T all ws n < n := by
  have e := rest_eq (T := T) he
  obtain ⟨s0, s1⟩ := sumF_bd (f := remF T all ws) (b := all - 1) (by omega) n (fun i hi => by have := hr i hi; omega)
  constructor
  · exact mul_sign ha (by omega)
  · apply mul_lt ha
    rw [e]
    have : all * (n : Int) = n * (all - 1) + n := by rw [Int.mul_sub, Int.mul_comm]; omega
    omega

theorem range_wB {ws : Nat → Int} {n : Nat} {total : Int} (h : shareG total ws n = true) : (∀ i, i < n → 0 ≤ ws i ∧ ws i ≤ 1000000) ∧ mOk total = true ∧ n ≤ 8 ∧ 1 ≤ sumF ws n ∧ sumF ws n ≤ 1000000 ∧ 1 ≤ n := by
  simp only [shareG, Bool.and_eq_true, decide_eq_true_eq] at h
  obtain ⟨⟨⟨h1, h2⟩, h3⟩, h4⟩ := h
  obtain ⟨a, b⟩ := inB_true h4
  refine ⟨wB_all h1, h2, h3, a, b, ?_⟩
  cases n with
  | zero => simp [sumF] at a
  | succ n => omega
/-- All that bounds the shares of T. -/
theorem share_facts {T : Int} {ws : Nat → Int} {n : Nat} (T0 : 0 ≤ T) (T1 : T ≤ 1000000000000) (hw : ∀ i, i < n → 0 ≤ ws i ∧ ws i ≤ 1000000) (s0 : 1 ≤ sumF ws n) (hn : 1 ≤ n) :
    0 ≤ restF T (sumF ws n) ws n ∧ restF T (sumF ws n) ws n < n ∧ ∀ i, i < n → 0 ≤ shareF T ws n i ∧ shareF T ws n i ≤ 1000000000000000000 + n := by
  have hq := fun i (hi : i < n) => quoF_bd (i := i) T0 T1 s0 (hw i hi).1 (hw i hi).2
  obtain ⟨r0, r1⟩ := rest_bd (T := T) rfl (by omega) (fun i hi => ⟨(hq i hi).2.2.2.2.1, (hq i hi).2.2.2.2.2⟩) hn
  refine ⟨r0, r1, fun i hi => ?_⟩
  have h := (outS_bd (n := n) (b := 1000000000000000000) (c := sumF ws n) (out := quoF T (sumF ws n) ws) (left := remF T (sumF ws n) ws) (by omega) (by omega)
          (fun i hi => by have := hq i hi; omega) (fun i hi => by have := hq i hi; omega) (restF T (sumF ws n) ws n).toNat).1 i hi
  simp only [shareF]
  omega

end My
end Go.Proofs.Ytmjemgelekceoaa
