/- Plain laws on shares. -/
import Derived.Test.YtmjemgelekceoaaTurn
namespace Go.Proofs.Ytmjemgelekceoaa
open Go.RowKit
set_option linter.unusedVariables false
namespace My

theorem sumF_congr {f f' : Nat → Int} : ∀ {n : Nat}, (∀ i, i < n → f i = f' i) → sumF f n = sumF f' n
  | 0, _ => rfl
  | n + 1, h => by simp only [sumF]; rw [sumF_congr (fun i hi => h i (by omega)), h n (by omega)]
theorem sumF_set {f : Nat → Int} {i : Nat} {v : Int} : ∀ {n : Nat}, i < n → sumF (setF f i v) n = sumF f n - f i + v
  | 0, h => by omega
  | n + 1, h => by
    simp only [sumF]
    by_cases e : i = n
    · subst e
      rw [sumF_congr (f := setF f i v) (f' := f) (fun j hj => by simp only [setF]; rw [if_neg (by omega)])]
      simp [setF]
    · rw [sumF_set (n := n) (by omega)]
      have : setF f i v n = f n := by simp only [setF]; rw [if_neg (by omega)]
      omega
theorem outS_sum {n : Nat} {out left : Nat → Int} (hn : 0 < n) : ∀ k : Nat, sumF (outS n out left k).1 n = sumF out n + k
  | 0 => by simp [outS]
  | k + 1 => by
    simp only [outS]
    rw [sumF_set (argTo_lt _ n hn), outS_sum hn k]
    omega

def posF (f : Nat → Int) (i : Nat) : Int := if 0 < f i then f i else 0
theorem sumF_le0 {f : Nat → Int} : ∀ {n : Nat}, (∀ i, i < n → f i ≤ 0) → sumF f n ≤ 0
  | 0, _ => by simp [sumF]
  | n + 1, h => by
    simp only [sumF]
    have := sumF_le0 (f := f) (n := n) (fun i hi => h i (by omega))
    have := h n (by omega)
    omega
/-- What holds behind k cents: each has its part, or one cent more (its rest then being gone). -/
structure Part (n : Nat) (out rem : Nat → Int) (S : (Nat → Int) × (Nat → Int)) : Prop where
  each : ∀ i, i < n → (S.1 i = out i ∧ S.2 i = rem i) ∨ (S.1 i = out i + 1 ∧ S.2 i = -1 ∧ 0 < rem i)
  order : ∀ i j, i < n → j < n → rem j < rem i → S.2 j = -1 → S.2 i = -1
theorem outS_part {n : Nat} {out rem : Nat → Int} {all rest : Int} (hn : 0 < n) (ha : 0 < all) (hr : ∀ i, i < n → 0 ≤ rem i ∧ rem i < all) (hs : sumF rem n = all * rest) :
    ∀ k : Nat, (k : Int) ≤ rest → Part n out rem (outS n out rem k) ∧ all * rest - k * (all - 1) ≤ sumF (posF (outS n out rem k).2) n
  | 0, _ => by
    refine ⟨⟨fun i hi => Or.inl ⟨rfl, rfl⟩, fun i j hi hj h e => ?_⟩, ?_⟩
    · have := hr j hj
      simp only [outS] at e
      omega
    · have e : sumF (posF (outS n out rem 0).2) n = sumF rem n := sumF_congr (fun i hi => by
        have := hr i hi
        show (if 0 < rem i then rem i else 0) = rem i
        by_cases c : 0 < rem i
        · rw [if_pos c]
        · rw [if_neg c]; omega)
      rw [e, hs]; simp
  | k + 1, hk => by
    obtain ⟨hp, hq⟩ := outS_part (out := out) hn ha hr hs k (by omega)
    have hal := argTo_lt (outS n out rem k).2 n hn
    have hmax := argTo_max (outS n out rem k).2 n
    generalize hS : outS n out rem k = S at *
    generalize hA : argTo S.2 n = A at *
    have hstep : outS n out rem (k + 1) = (setF S.1 A (S.1 A + 1), setF S.2 A (-1)) := by
      simp only [outS, hS, hA]
    have hpos : 0 < S.2 A := by
      rcases Int.lt_or_le 0 (S.2 A) with h | h
      · exact h
      · exfalso
        have h0 : sumF (posF S.2) n ≤ 0 := sumF_le0 (fun i hi => by
          have := hmax i hi
          simp only [posF]; split <;> omega)
        have h1 : all * rest - (k : Int) * (all - 1) = all * (rest - k) + k := by
          rw [Int.mul_sub, Int.mul_sub, Int.mul_comm (k : Int) all]; omega
        have h2 : all * 1 ≤ all * (rest - k) := Int.mul_le_mul_of_nonneg_left (by omega) (by omega)
        omega
    have hAe : S.1 A = out A ∧ S.2 A = rem A := by
      rcases hp.each A hal with h | h
      · exact h
      · omega
    rw [hstep]
    refine ⟨⟨fun i hi => ?_, fun i j hi hj h e => ?_⟩, ?_⟩
    · simp only [setF]
      by_cases e : i = A
      · subst e
        right
        rw [if_pos rfl, if_pos rfl]
        exact ⟨by omega, rfl, by omega⟩
      · rw [if_neg e, if_neg e]
        exact hp.each i hi
    · simp only [setF] at e ⊢
      by_cases ei : i = A
      · rw [if_pos ei]
      · rw [if_neg ei]
        by_cases ej : j = A
        · subst ej
          rcases hp.each i hi with h3 | h3
          · have := hmax i hi
            omega
          · exact h3.2.1
        · rw [if_neg ej] at e
          exact hp.order i j hi hj h e
    · have e1 : sumF (posF (setF S.2 A (-1))) n = sumF (posF S.2) n - posF S.2 A := by
        rw [sumF_congr (f' := setF (posF S.2) A 0) (fun i hi => by
          simp only [posF, setF]
          by_cases e : i = A
          · simp [e]
          · simp [e])]
        rw [sumF_set hal]; omega
      have e2 : posF S.2 A = rem A := by simp only [posF]; rw [if_pos hpos]; omega
      have hrA := hr A hal
      have e3 : ((k + 1 : Nat) : Int) * (all - 1) = k * (all - 1) + (all - 1) := by rw [Int.natCast_add, Int.add_mul]; simp
      show all * rest - ((k + 1 : Nat) : Int) * (all - 1) ≤ sumF (posF (setF S.2 A (-1))) n
      rw [e1, e2, e3]
      omega

/-- What the shares of T, not below 0, are. -/
theorem shareF_law {T : Int} {ws : Nat → Int} {n : Nat} (T0 : 0 ≤ T) (T1 : T ≤ 1000000000000) (hw : ∀ i, i < n → 0 ≤ ws i ∧ ws i ≤ 1000000) (s0 : 1 ≤ sumF ws n) (hn : 1 ≤ n) :
    sumF (shareF T ws n) n = T ∧
    (∀ i, i < n → T * ws i - shareF T ws n i * sumF ws n < sumF ws n ∧ -(sumF ws n) < T * ws i - shareF T ws n i * sumF ws n ∧ (ws i = 0 → shareF T ws n i = 0)) ∧
    (∀ i j, i < n → j < n → ws j < ws i → shareF T ws n j ≤ shareF T ws n i) := by
  have hq := fun i (hi : i < n) => quoF_bd (i := i) T0 T1 s0 (hw i hi).1 (hw i hi).2
  obtain ⟨all, hall⟩ : ∃ all, all = sumF ws n := ⟨_, rfl⟩
  rw [← hall] at hq s0
  have hr := fun i (hi : i < n) => (hq i hi).2.2.2.2
  obtain ⟨r0, r1⟩ := rest_bd (T := T) hall.symm (by omega) hr hn
  have hs := rest_eq (T := T) hall.symm
  have hsum := outS_sum (n := n) (out := quoF T all ws) (left := remF T all ws) hn (restF T all ws n).toNat
  have hpart := (outS_part (out := quoF T all ws) hn (by omega) hr hs.symm (restF T all ws n).toNat (by omega)).1
  have hsh : shareF T ws n = (outS n (quoF T all ws) (remF T all ws) (restF T all ws n).toNat).1 := by rw [hall]; rfl
  rw [hsh, ← hall]
  generalize outS n (quoF T all ws) (remF T all ws) (restF T all ws n).toNat = S at *
  have hdm : ∀ i, all * quoF T all ws i + remF T all ws i = T * ws i := fun i => Int.mul_ediv_add_emod (T * ws i) all
  refine ⟨?_, fun i hi => ?_, fun i j hi hj hij => ?_⟩
  · rw [hsum]; simp only [restF] at r0 ⊢; omega
  · have h1 := hdm i
    have h2 := hr i hi
    have hcomm : quoF T all ws i * all = all * quoF T all ws i := Int.mul_comm _ _
    rcases hpart.each i hi with ⟨e, _⟩ | ⟨e, _, hp⟩
    · rw [e, hcomm]
      refine ⟨by omega, by omega, fun h0 => ?_⟩
      simp [quoF, h0]
    · rw [e, Int.add_mul, hcomm]
      refine ⟨by omega, by omega, fun h0 => ?_⟩
      have : remF T all ws i = 0 := by simp [remF, h0]
      omega
  · have hi1 := hdm i
    have hj1 := hdm j
    have hi2 := hr i hi
    have hj2 := hr j hj
    have hle : T * ws j ≤ T * ws i := Int.mul_le_mul_of_nonneg_left (by omega) T0
    rcases Int.lt_trichotomy (quoF T all ws j) (quoF T all ws i) with h | h | h
    · rcases hpart.each i hi with ⟨e, _⟩ | ⟨e, _⟩ <;> rcases hpart.each j hj with ⟨e', _⟩ | ⟨e', _⟩ <;> omega
    · rw [h] at hj1
      rcases hpart.each j hj with ⟨e', f'⟩ | ⟨e', f', hp'⟩
      · rcases hpart.each i hi with ⟨e, _⟩ | ⟨e, _⟩ <;> omega
      · have hT : 0 < T := by
          rcases Int.lt_or_le 0 T with h0 | h0
          · exact h0
          · have : T = 0 := by omega
            subst this
            simp [remF] at hp'
        have hlt : T * ws j < T * ws i := Int.mul_lt_mul_of_pos_left hij hT
        have := hpart.order i j hi hj (by omega) f'
        rcases hpart.each i hi with ⟨e, f⟩ | ⟨e, _⟩ <;> omega
    · exfalso
      have : all * (quoF T all ws i + 1) ≤ all * quoF T all ws j := Int.mul_le_mul_of_nonneg_left (by omega) (by omega)
      rw [Int.mul_add] at this
      omega

end My
end Go.Proofs.Ytmjemgelekceoaa
