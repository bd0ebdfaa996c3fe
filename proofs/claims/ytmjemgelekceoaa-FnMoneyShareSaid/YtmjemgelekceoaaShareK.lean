/- What the shares of an amount are, with either sign: the law. Plain. -/
import Derived.Test.YtmjemgelekceoaaShareL
namespace Go.Proofs.Ytmjemgelekceoaa
open Go.RowKit
set_option linter.unusedVariables false
namespace My

theorem sumF_le {f : Nat → Int} {n : Nat} (h : ∀ i, i < n → 0 ≤ f i) : ∀ d k, k + d = n → 0 ≤ sumF f k ∧ sumF f k ≤ sumF f n
  | 0, k, hk => by
    have e : k = n := by omega
    subst e
    refine ⟨?_, Int.le_refl _⟩
    clear hk
    induction k with
    | zero => simp [sumF]
    | succ k ih =>
      simp only [sumF]
      have := ih (fun i hi => h i (by omega))
      have := h k (by omega)
      omega
  | d + 1, k, hk => by
    obtain ⟨h1, h2⟩ := sumF_le h d (k + 1) (by omega)
    have hk0 := h k (by omega)
    simp only [sumF] at h1 h2
    have h3 : 0 ≤ sumF f k := by
      clear h1 h2
      have : ∀ m, m ≤ k → 0 ≤ sumF f m := by
        intro m
        induction m with
        | zero => intro _; simp [sumF]
        | succ m ih =>
          intro hm
          simp only [sumF]
          have := ih (by omega)
          have := h m (by omega)
          omega
      exact this k (Nat.le_refl _)
    exact ⟨h3, by omega⟩
theorem sumF_part {f : Nat → Int} {n k : Nat} (h : ∀ i, i < n → 0 ≤ f i) (hk : k ≤ n) : 0 ≤ sumF f k ∧ sumF f k ≤ sumF f n := sumF_le h (n - k) k (by omega)
theorem sumF_each {f : Nat → Int} {n i : Nat} (h : ∀ i, i < n → 0 ≤ f i) (hi : i < n) : f i ≤ sumF f n := by
  have h1 := (sumF_part h (k := i + 1) (by omega)).2
  have h2 := (sumF_part h (k := i) (by omega)).1
  simp only [sumF] at h1
  omega
theorem sumF_sign (T : Int) (f : Nat → Int) : ∀ k, sumF (signF T f) k = if T < 0 then -(sumF f k) else sumF f k
  | 0 => by simp [sumF]
  | k + 1 => by
    simp only [sumF, sumF_sign T f k, signF]
    split <;> omega

structure MshLaw (T : Int) (ws : Nat → Int) (n : Nat) (F : Nat → Int) : Prop where
  n1 : 1 ≤ n
  n8 : n ≤ 8
  T0 : -1000000000000 ≤ T
  T1 : T ≤ 1000000000000
  w : ∀ i, i < n → 0 ≤ ws i ∧ ws i ≤ 1000000
  a0 : 1 ≤ sumF ws n
  a1 : sumF ws n ≤ 1000000
  wp : ∀ k, k ≤ n → 0 ≤ sumF ws k ∧ sumF ws k ≤ 1000000
  sum : sumF F n = T
  part : ∀ k, k ≤ n → -1000000000000 ≤ sumF F k ∧ sumF F k ≤ 1000000000000
  each : ∀ i, i < n → -1000000000000 ≤ F i ∧ F i ≤ 1000000000000
  near : ∀ i, i < n → T * ws i - F i * sumF ws n < sumF ws n ∧ -(sumF ws n) < T * ws i - F i * sumF ws n
  zero : ∀ i, i < n → ws i = 0 → F i = 0
  order : 0 ≤ T → ∀ i j, i < n → j < n → ws j < ws i → F j ≤ F i
theorem msh_law {T : Int} {ws : Nat → Int} {n : Nat} (hg : shareG T ws n = true) : MshLaw T ws n (mshF T ws n) := by
  obtain ⟨hw, hm, h8, s0, s1, hn⟩ := range_wB hg
  obtain ⟨m0, m1⟩ := inB_true (show inB T (-1000000000000) 1000000000000 = true from hm)
  have ha0 : 0 ≤ absI T := by simp only [absI]; omega
  have ha1 : absI T ≤ 1000000000000 := by simp only [absI]; omega
  obtain ⟨l1, l2, l3⟩ := shareF_law ha0 ha1 hw s0 hn
  have hnn := fun i hi => ((share_facts ha0 ha1 hw s0 hn).2.2 i hi).1
  have hsp := fun k (hk : k ≤ n) => sumF_part hnn hk
  have hse := fun i (hi : i < n) => sumF_each hnn hi
  rw [l1] at hse hsp
  have hwp := fun k (hk : k ≤ n) => sumF_part (fun i hi => (hw i hi).1) hk
  refine ⟨hn, h8, m0, m1, hw, s0, s1, fun k hk => by have := hwp k hk; omega, ?_, ?_, ?_, ?_, ?_, ?_⟩
  · show sumF (signF T _) n = T
    rw [sumF_sign, l1]
    simp only [absI]
    omega
  · intro k hk
    show -1000000000000 ≤ sumF (signF T _) k ∧ sumF (signF T _) k ≤ 1000000000000
    rw [sumF_sign]
    have := hsp k hk
    split <;> omega
  · intro i hi
    have h1 := hse i hi
    have h2 := hnn i hi
    simp only [mshF, signF]
    split <;> omega
  · intro i hi
    obtain ⟨b1, b2, _⟩ := l2 i hi
    simp only [mshF, signF]
    by_cases hT : T < 0
    · rw [if_pos hT]
      have e : absI T = -T := by simp only [absI]; omega
      simp only [e, Int.neg_mul] at b1 b2 ⊢
      omega
    · rw [if_neg hT]
      have e : absI T = T := by simp only [absI]; omega
      simp only [e] at b1 b2 ⊢
      exact ⟨b1, b2⟩
  · intro i hi hz
    obtain ⟨_, _, b3⟩ := l2 i hi
    simp only [mshF, signF, b3 hz]
    split <;> rfl
  · intro hT i j hi hj hij
    have := l3 i j hi hj hij
    simp only [mshF, signF]
    rw [if_neg (by omega), if_neg (by omega)]
    exact this

end My
end Go.Proofs.Ytmjemgelekceoaa
