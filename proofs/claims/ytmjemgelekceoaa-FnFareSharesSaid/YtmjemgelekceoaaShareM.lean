/- How an amount is shared out, in plain numbers: no program in sight. -/
import Derived.Test.YtmjemgelekceoaaPart
namespace Go.Proofs.Ytmjemgelekceoaa
open Go.RowKit
set_option linter.unusedVariables false
namespace My

def sumF (f : Nat → Int) : Nat → Int
  | 0 => 0
  | k + 1 => sumF f k + f k
/-- The first place of the greatest among the first k. -/
def argTo (f : Nat → Int) : Nat → Nat
  | 0 => 0
  | k + 1 => if k = 0 then 0 else if f (argTo f k) < f k then k else argTo f k
def setF (f : Nat → Int) (i : Nat) (v : Int) : Nat → Int := fun j => if j = i then v else f j
/-- The shares and what is left over, behind k cents more. -/
def outS (n : Nat) (out left : Nat → Int) : Nat → (Nat → Int) × (Nat → Int)
  | 0 => (out, left)
  | k + 1 => (setF (outS n out left k).1 (argTo (outS n out left k).2 n) ((outS n out left k).1 (argTo (outS n out left k).2 n) + 1), setF (outS n out left k).2 (argTo (outS n out left k).2 n) (-1))
def quoF (T all : Int) (ws : Nat → Int) (i : Nat) : Int := T * ws i / all
def remF (T all : Int) (ws : Nat → Int) (i : Nat) : Int := T * ws i % all
def restF (T all : Int) (ws : Nat → Int) (n : Nat) : Int := T - sumF (quoF T all ws) n
/-- The shares of T, not below 0. -/
def shareF (T : Int) (ws : Nat → Int) (n : Nat) : Nat → Int := (outS n (quoF T (sumF ws n) ws) (remF T (sumF ws n) ws) (restF T (sumF ws n) ws n).toNat).1
def wB (ws : Nat → Int) (i : Nat) : Bool := inB (ws i) 0 1000000
/-- What is asked of total and weights. -/
def shareG (total : Int) (ws : Nat → Int) (n : Nat) : Bool := (List.range n).all (wB ws) && mOk total && decide (n ≤ 8) && inB (sumF ws n) 1 1000000
def signF (total : Int) (f : Nat → Int) (i : Nat) : Int := if total < 0 then -(f i) else f i
/-- All shares; their number is 0 where what is asked does not hold. -/
def mshF (total : Int) (ws : Nat → Int) (n : Nat) : Nat → Int := signF total (shareF (absI total) ws n)
def mshN (total : Int) (ws : Nat → Int) (n : Nat) : Nat := if shareG total ws n then n else 0

theorem argTo_lt (f : Nat → Int) : ∀ k, 0 < k → argTo f k < k
  | 0, h => by omega
  | k + 1, _ => by
    unfold argTo
    by_cases e : k = 0
    · rw [if_pos e]; omega
    · rw [if_neg e]
      have := argTo_lt f k (by omega)
      split <;> omega
theorem argTo_max (f : Nat → Int) : ∀ k j, j < k → f j ≤ f (argTo f k)
  | 0, j, h => by omega
  | k + 1, j, h => by
    unfold argTo
    by_cases e : k = 0
    · rw [if_pos e]; have : j = 0 := by omega
      rw [this]; exact Int.le_refl _
    · rw [if_neg e]
      split
      · by_cases hj : j = k
        · rw [hj]; exact Int.le_refl _
        · have := argTo_max f k j (by omega); omega
      · by_cases hj : j = k
        · rw [hj]; omega
        · exact argTo_max f k j (by omega)
theorem argTo_first (f : Nat → Int) : ∀ k j, j < argTo f k → f j < f (argTo f k)
  | 0, j, h => by simp [argTo] at h
  | k + 1, j, h => by
    unfold argTo at h ⊢
    by_cases e : k = 0
    · rw [if_pos e] at h; omega
    · rw [if_neg e] at h ⊢
      by_cases c : f (argTo f k) < f k
      · rw [if_pos c] at h ⊢
        have := argTo_max f k j h
        omega
      · rw [if_neg c] at h ⊢
        exact argTo_first f k j h
theorem wB_all {ws : Nat → Int} {n : Nat} (h : (List.range n).all (wB ws) = true) : ∀ i, i < n → 0 ≤ ws i ∧ ws i ≤ 1000000 := by
  intro i hi
  rw [List.all_eq_true] at h
  exact inB_true (h i (by simpa using hi))
theorem sumF_bd {f : Nat → Int} {b : Int} (hb : 0 ≤ b) : ∀ n, (∀ i, i < n → 0 ≤ f i ∧ f i ≤ b) → 0 ≤ sumF f n ∧ sumF f n ≤ n * b
  | 0, _ => by simp [sumF]
  | n + 1, h => by
    have h1 := sumF_bd hb n (fun i hi => h i (by omega))
    have h2 := h n (by omega)
    have e : ((n + 1 : Nat) : Int) * b = n * b + b := by rw [Int.natCast_add, Int.add_mul]; simp
    simp only [sumF]
    rw [e]; omega
theorem quoF_bd {T all : Int} {ws : Nat → Int} {i : Nat} (h0 : 0 ≤ T) (h1 : T ≤ 1000000000000) (ha : 1 ≤ all) (w0 : 0 ≤ ws i) (w1 : ws i ≤ 1000000) :
    0 ≤ T * ws i ∧ T * ws i ≤ 1000000000000000000 ∧ 0 ≤ quoF T all ws i ∧ quoF T all ws i ≤ 1000000000000000000 ∧ 0 ≤ remF T all ws i ∧ remF T all ws i < all := by
  obtain ⟨p0, p1⟩ := mul_bd T (ws i) h0 h1 w0 w1
  obtain ⟨q0, q1, q2, q3⟩ := div_facts (T * ws i) all p0 ha
  refine ⟨p0, p1, q0, ?_, q2, q3⟩
  unfold quoF; omega
/-- What the shares and the rests are bounded by, behind k cents. -/
theorem outS_bd {n : Nat} {out left : Nat → Int} {b c : Int} (hc : -1 ≤ c) (hn : 0 < n) (ho : ∀ i, i < n → 0 ≤ out i ∧ out i ≤ b) (hl : ∀ i, i < n → -1 ≤ left i ∧ left i ≤ c) :
    ∀ k, (∀ i, i < n → 0 ≤ (outS n out left k).1 i ∧ (outS n out left k).1 i ≤ b + k) ∧ (∀ i, i < n → -1 ≤ (outS n out left k).2 i ∧ (outS n out left k).2 i ≤ c)
  | 0 => ⟨fun i hi => by have := ho i hi; simp only [outS]; omega, fun i hi => hl i hi⟩
  | k + 1 => by
    obtain ⟨h1, h2⟩ := outS_bd hc hn ho hl k
    have ha := argTo_lt (outS n out left k).2 n hn
    have h3 := h1 _ ha
    constructor
    · intro i hi
      have := h1 i hi
      simp only [outS, setF]
      split <;> omega
    · intro i hi
      have := h2 i hi
      simp only [outS, setF]
      split <;> omega

end My
end Go.Proofs.Ytmjemgelekceoaa
