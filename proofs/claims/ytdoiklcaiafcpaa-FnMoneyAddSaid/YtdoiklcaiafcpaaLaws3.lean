/- The walks of the drawn laws on amounts and names: each returns true. -/
import Derived.Test.YtdoiklcaiafcpaaDrawA
namespace Go.Proofs.Ytdoiklcaiafcpaa
open Go.RowKit Go.Deep
set_option linter.unusedVariables false
namespace My

theorem mOk_yes {n : Int} (h : -1000000000000 ≤ n ∧ n ≤ 1000000000000) : mOk n = true := inB_yes h

theorem add_facts (a b : Int) (h : addB a b = true) : addV a b = a + b ∧ addB b a = true ∧ addV b a = a + b ∧ addB (-a) (-b) = true ∧ addV (-a) (-b) = -(a + b) ∧ addB a 0 = true ∧ addV a 0 = a ∧ mOk (a + b) = true ∧ mOk a = true := by
  have h0 := h
  simp only [addB, Bool.and_eq_true] at h0
  have h1 := mOk_true h0.1.1
  have h2 := mOk_true h0.1.2
  have h3 := mOk_true h0.2
  have e1 : addB b a = true := by simp only [addB, Bool.and_eq_true]; exact ⟨⟨mOk_yes h2, mOk_yes h1⟩, mOk_yes (by omega)⟩
  have e2 : addB (-a) (-b) = true := by simp only [addB, Bool.and_eq_true]; exact ⟨⟨mOk_yes (by omega), mOk_yes (by omega)⟩, mOk_yes (by omega)⟩
  have e3 : addB a 0 = true := by simp only [addB, Bool.and_eq_true]; exact ⟨⟨mOk_yes h1, by decide⟩, mOk_yes (by omega)⟩
  refine ⟨by simp [addV, h], e1, by simp only [addV, e1]; simp; omega, e2, by simp only [addV, e2]; simp; omega, e3, by simp [addV, e3], h0.2, h0.1.1⟩
theorem add_no (a b : Int) (h : addB a b = false) : addV a b = 0 ∧ addB b a = false ∧ addV b a = 0 := by
  have e1 : addB b a = false := by
    rw [← h]; simp only [addB]; rw [Int.add_comm b a]; cases mOk a <;> cases mOk b <;> rfl
  exact ⟨by simp [addV, h], e1, by simp [addV, e1]⟩

set_option maxHeartbeats 2000000 in
set_option maxRecDepth 100000 in
theorem FnMoneyAdd_walk (a0 : Option Addr) (len0 cap0 : Nat) (z0 : Unit) (w : World) (h : BytesIn w a0 len0 cap0) :
    Calls Try.prog 7 #[.slice a0 len0 cap0] w fun e w' => e = .returned (.bool true) ∧ Below w.heap.size w w' := by
  have HH := Lib.hid h
  have hc : len0 ≤ 9223372036854775807 := by have := h.1; have := h.2.1; unfold maxLen at this; omega
  clear h
  by_cases hl : 1048576 < len0
  · go_enter Try.func7, Try.ntmps7
    go_wp2_with fail
    go_ret
    exact ⟨rfl, Below.refl _ _⟩
  · go_enter Try.func7, Try.ntmps7
    go_wp2_with fail
    refine (DrawMoneyAdd_any _ _ _ _ HH.out).mono ?_
    rintro e w1 ⟨a, b, rfl, a0, a1, b0, b1, hb⟩
    have HB := Lib.hid hb
    clear hb
    cases hab : addB a b
    · obtain ⟨f1, f2, f3⟩ := add_no a b hab
      go_wp2_with (first | (go_at_call 18; ((with_reducible refine (iMoneyAdd_any _ _ _).mono ?_); rintro e w' ⟨rfl, rfl⟩)) | (go_at_call 17; ((with_reducible refine (sMoneyAdd_any _ _ _).mono ?_); rintro e w' ⟨rfl, rfl⟩)) | (go_at_call 14; ((with_reducible refine (iMoneyOk_any _ _).mono ?_); rintro e w' ⟨rfl, rfl⟩)) | (go_at_call 13; ((with_reducible refine (sMoneyOk_any _ _).mono ?_); rintro e w' ⟨rfl, rfl⟩)))
      go_ret
      exact ⟨rfl, HB.out⟩
    · obtain ⟨f1, f2, f3, f4, f5, f6, f7, f8, f9⟩ := add_facts a b hab
      go_wp2_with (first | (go_at_call 18; ((with_reducible refine (iMoneyAdd_any _ _ _).mono ?_); rintro e w' ⟨rfl, rfl⟩)) | (go_at_call 17; ((with_reducible refine (sMoneyAdd_any _ _ _).mono ?_); rintro e w' ⟨rfl, rfl⟩)) | (go_at_call 14; ((with_reducible refine (iMoneyOk_any _ _).mono ?_); rintro e w' ⟨rfl, rfl⟩)) | (go_at_call 13; ((with_reducible refine (sMoneyOk_any _ _).mono ?_); rintro e w' ⟨rfl, rfl⟩)))
      go_ret
      exact ⟨rfl, HB.out⟩

end My
end Go.Proofs.Ytdoiklcaiafcpaa
