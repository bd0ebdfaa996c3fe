/- The walk of the drawn law on parts of amounts: it returns true. -/
import Derived.Test.YtdoiklcaiafcpaaDrawP
namespace Go.Proofs.Ytdoiklcaiafcpaa
open Go.RowKit Go.Deep
set_option linter.unusedVariables false
namespace My

theorem near_off (X m : Int) (h0 : 0 ≤ X) (hm : 1 ≤ m) :
    2 * (X - nearI X m * m) ≤ m ∧ -m ≤ 2 * (X - nearI X m * m) ∧ (nearI X m % 2 = 0 ∨ (2 * (X - nearI X m * m) < m ∧ -m < 2 * (X - nearI X m * m))) := by
  have hd := Int.mul_ediv_add_emod X m
  obtain ⟨_, _, r0, r1⟩ := div_facts X m h0 hm
  have e1 : (X / m + 1) * m = m * (X / m) + m := by rw [Int.add_mul, Int.one_mul, Int.mul_comm]
  have e2 : (X / m) * m = m * (X / m) := Int.mul_comm _ _
  rcases near_cases X m with ⟨g1, hq⟩ | ⟨g2, g3, hq⟩ | ⟨g2, g3, hq⟩ | ⟨g1, hq⟩
  · rw [hq, e1]; omega
  · rw [hq, e1]; omega
  · rw [hq, e2]; omega
  · rw [hq, e2]; omega

theorem near_full (x m : Int) (h0 : 0 ≤ x) (hm : 1 ≤ m) : nearI (x * m) m = x := by
  have e1 : x * m / m = x := Int.mul_ediv_cancel _ (by omega)
  have e2 : x * m % m = 0 := Int.mul_emod_left _ _
  unfold nearI nearB
  rw [e1, e2]
  simp; omega

theorem absI_neg (a : Int) : absI (-a) = absI a := by unfold absI; split <;> split <;> omega

theorem part_facts (a n m : Int) (h : partB a n m = true) :
    mOk (partV a n m) = true ∧ 2 * (a * n - partV a n m * m) ≤ m ∧ -m ≤ 2 * (a * n - partV a n m * m) ∧
    (((partV a n m).tmod 2 == 0) = true ∨ (2 * (a * n - partV a n m * m) < m ∧ -m < 2 * (a * n - partV a n m * m))) ∧
    partB (-a) n m = true ∧ partV (-a) n m = -partV a n m ∧ partB a m m = true ∧ partV a m m = a ∧
    -1000000000000000000 ≤ a * n ∧ a * n ≤ 1000000000000000000 ∧ 1 ≤ m ∧ m ≤ 1000000 := by
  have hV : partV a n m = partQ a n m := by simp [partV, h]
  have hb := h
  simp only [partB, partG, Bool.and_eq_true] at hb
  obtain ⟨⟨⟨ha, hn⟩, hm⟩, hq⟩ := hb
  have a1 := mOk_true ha
  have n1 := inB_true hn
  have m1 := inB_true hm
  have q1 := mOk_true hq
  obtain ⟨s0, s1⟩ := absI_bd a a1
  obtain ⟨p0, p1⟩ := mul_bd (absI a) n s0 s1 n1.1 n1.2
  obtain ⟨f1, f2, f3⟩ := near_off (absI a * n) m p0 m1.1
  have gneg : partG (-a) n m = true := by
    simp only [partG, Bool.and_eq_true]; exact ⟨⟨inB_yes (by omega), hn⟩, hm⟩
  have gfull : partG a m m = true := by
    simp only [partG, Bool.and_eq_true]; exact ⟨⟨ha, inB_yes (by omega)⟩, hm⟩
  have qfull : partQ a m m = a := by
    unfold partQ; rw [near_full _ _ s0 m1.1]; unfold absI; split <;> omega
  have bfull : partB a m m = true := by simp only [partB, gfull, qfull, ha, Bool.and_self]
  have qneg : partQ (-a) n m = -partQ a n m := by
    unfold partQ
    rw [absI_neg]
    by_cases h0 : a < 0
    · rw [if_neg (by omega), if_pos h0]; omega
    · by_cases h1 : a = 0
      · subst h1
        have e : nearI (absI 0 * n) m = 0 := by
          have : absI 0 * n = 0 * m := by simp [absI]
          rw [this, near_full 0 m (by omega) m1.1]
        simp [e]
      · rw [if_pos (by omega), if_neg h0]
  have bneg : partB (-a) n m = true := by
    simp only [partB, gneg, qneg, Bool.true_and]; exact inB_yes (by omega)
  have hX : a * n = (if a < 0 then -(absI a * n) else absI a * n) := by
    unfold absI
    split
    · rw [Int.neg_mul, Int.neg_neg]
    · rfl
  have hQ : partQ a n m * m = (if a < 0 then -(nearI (absI a * n) m * m) else nearI (absI a * n) m * m) := by
    unfold partQ
    split
    · rw [Int.neg_mul]
    · rfl
  have hT : (partQ a n m).tmod 2 = 0 ∨ nearI (absI a * n) m % 2 ≠ 0 := by
    by_cases hz : nearI (absI a * n) m % 2 = 0
    · left
      have : (2 : Int) ∣ partQ a n m := by
        have h2 : (2 : Int) ∣ nearI (absI a * n) m := Int.dvd_of_emod_eq_zero hz
        unfold partQ
        split
        · exact Int.dvd_neg.2 h2
        · exact h2
      exact Int.tmod_eq_zero_of_dvd this
    · exact Or.inr hz
  rw [hV, hX, hQ]
  refine ⟨hq, ?_, ?_, ?_, bneg, by simp [partV, bneg, qneg], bfull, by simp [partV, bfull, qfull], ?_, ?_, m1.1, m1.2⟩
  · split <;> omega
  · split <;> omega
  · rcases f3 with f3 | f3
    · left
      rcases hT with hT | hT
      · rw [hT]; rfl
      · exact absurd f3 hT
    · right
      split <;> omega
  · split <;> omega
  · split <;> omega

set_option maxHeartbeats 4000000 in
set_option maxRecDepth 100000 in
theorem FnMoneyPart_walk (a0 : Option Addr) (len0 cap0 : Nat) (z0 : Unit) (w : World) (h : BytesIn w a0 len0 cap0) :
    Calls Try.prog 10 #[.slice a0 len0 cap0] w fun e w' => e = .returned (.bool true) ∧ Below w.heap.size w w' := by
  have HH := Lib.hid h
  have hc : len0 ≤ 9223372036854775807 := by have := h.1; have := h.2.1; unfold maxLen at this; omega
  clear h
  by_cases hl : 1048576 < len0
  · go_enter Try.func10, Try.ntmps10
    go_wp2_with fail
    go_ret
    exact ⟨rfl, Below.refl _ _⟩
  · go_enter Try.func10, Try.ntmps10
    go_wp2_with fail
    refine (DrawMoneyPart_any _ _ _ _ HH.out).mono ?_
    rintro e w1 ⟨a, n, m, rfl, ⟨a0, a1⟩, ⟨n0, n1⟩, ⟨m0, m1⟩, hb⟩
    have HB := Lib.hid hb
    clear hb
    cases hab : partB a n m
    · have hv : partV a n m = 0 := by simp [partV, hab]
      go_wp2_with (first | (go_at_call 23; ((with_reducible refine (iMoneyPart_any _ _ _ _).mono ?_); rintro e w' ⟨rfl, k, rfl⟩)) | (go_at_call 22; ((with_reducible refine (sMoneyPart_any _ _ _ _).mono ?_); rintro e w' ⟨rfl, rfl⟩)))
      go_ret
      exact ⟨rfl, below_drewN HB.out _⟩
    · obtain ⟨f1, f2, f3, f4, f5, f6, f7, f8, f9, f10, f11, f12⟩ := part_facts a n m hab
      have f13 := mOk_true f1
      clear f1
      go_wp2_with (first | (go_at_call 23; ((with_reducible refine (iMoneyPart_any _ _ _ _).mono ?_); rintro e w' ⟨rfl, k, rfl⟩)) | (go_at_call 22; ((with_reducible refine (sMoneyPart_any _ _ _ _).mono ?_); rintro e w' ⟨rfl, rfl⟩)))
      all_goals
        go_ret
        exact ⟨ret_bool (by first | rfl | (simp only [Bool.or_eq_true, decide_eq_true_eq, beq_iff_eq]; assumption) | (exfalso; rcases f4 with f4 | f4 <;> (try simp at f4) <;> omega)), by repeat (first | exact HB.out | apply below_drewN)⟩

end My
end Go.Proofs.Ytdoiklcaiafcpaa
