/- The contracts of MoneyPart, as the program and the reference have it. No condition. -/
import Derived.Test.YtdoiklcaiafcpaaMoney
import Derived.Deep.QuietTactic
import Derived.BigQuiet
namespace Go.Proofs.Ytdoiklcaiafcpaa
open Go.RowKit
namespace My

/-- A callee that leaves the world alone, met in a quiet region. -/
theorem quietS {P : Program} {f : FuncId} {args : Array Value} {w : World} {n : Nat} {v : Value}
    (h : Calls P f args (w.drewN n) fun e w' => e = .returned v ∧ w.drewN n = w') : Calls P f args (w.drewN n) fun e w'' => e = .returned v ∧ ∃ m, w'' = w.drewN m :=
  h.mono fun _ _ ⟨he, hm⟩ => ⟨he, n, hm.symm⟩

def nearB (x d : Int) : Bool := decide (d < 2 * (x % d)) || (decide (2 * (x % d) = d) && decide (x / d % 2 = 1))
def nearI (x d : Int) : Int := if nearB x d then x / d + 1 else x / d
def absI (n : Int) : Int := if n < 0 then -n else n

theorem div_facts (x d : Int) (h0 : 0 ≤ x) (hd : 1 ≤ d) : 0 ≤ x / d ∧ x / d ≤ x ∧ 0 ≤ x % d ∧ x % d < d := by
  refine ⟨Int.ediv_nonneg h0 (by omega), ?_, Int.emod_nonneg _ (by omega), Int.emod_lt_of_pos _ (by omega)⟩
  exact Int.ediv_le_self _ h0

theorem nearI_bd (x d : Int) (h0 : 0 ≤ x) (hd : 1 ≤ d) : 0 ≤ nearI x d ∧ nearI x d ≤ x + 1 := by
  obtain ⟨a, b, _, _⟩ := div_facts x d h0 hd
  unfold nearI; split <;> omega

theorem nearI_lo (x d : Int) (h : 2 * (x % d) ≤ d) (h2 : ¬ 2 * (x % d) = d) : nearI x d = x / d := by
  unfold nearI nearB; rw [if_neg]; simp only [Bool.or_eq_true, Bool.and_eq_true, decide_eq_true_eq]; omega

theorem near_cases (x d : Int) : (d < 2 * (x % d) ∧ nearI x d = x / d + 1) ∨ (2 * (x % d) = d ∧ x / d % 2 = 1 ∧ nearI x d = x / d + 1) ∨
    (2 * (x % d) = d ∧ ¬ x / d % 2 = 1 ∧ nearI x d = x / d) ∨ (2 * (x % d) < d ∧ nearI x d = x / d) := by
  unfold nearI nearB
  simp only [Bool.or_eq_true, Bool.and_eq_true, decide_eq_true_eq]
  split <;> omega

theorem l2Near_any (x d : Int) (w : World) (h0 : 0 ≤ x) (h1 : x ≤ 1000000000000000000) (hd : 1 ≤ d) (hd1 : d ≤ 1000000) :
    Calls Try.prog 38 #[.int .i64 x, .int .i64 d] w fun e w' => e = .returned (.int .i64 (nearI x d)) ∧ w = w' := by
  obtain ⟨a, b, c, e⟩ := div_facts x d h0 hd
  by_cases g1 : d < 2 * (x % d)
  · go_enter Try.func38, Try.ntmps38
    go_wp2_with fail
    go_ret
    exact ⟨ret_int (by simp [nearI, nearB, g1]), rfl⟩
  · by_cases g2 : 2 * (x % d) = d
    · by_cases g3 : x / d % 2 = 1
      · go_enter Try.func38, Try.ntmps38
        go_wp2_with fail
        go_ret
        exact ⟨ret_int (by simp [nearI, nearB, g2, g3]), rfl⟩
      · go_enter Try.func38, Try.ntmps38
        go_wp2_with fail
        go_ret
        exact ⟨ret_int (by simp [nearI, nearB, g2, g3]), rfl⟩
    · go_enter Try.func38, Try.ntmps38
      go_wp2_with fail
      go_ret
      exact ⟨ret_int (nearI_lo x d (by omega) g2).symm, rfl⟩

theorem size_any (n : Int) (w : World) (h0 : -9223372036854775807 ≤ n) (h1 : n ≤ 9223372036854775807) :
    Calls Try.prog 39 #[.int .i64 n] w fun e w' => e = .returned (.int .i64 (absI n)) ∧ w = w' := by
  go_enter Try.func39, Try.ntmps39
  go_wp2_with fail
  all_goals
    go_ret
    exact ⟨ret_int (by unfold absI; omega), rfl⟩

/-- MoneyPart, where its arguments are in range. -/
def partG (a n m : Int) : Bool := mOk a && inB n 0 1000000 && inB m 1 1000000
def partQ (a n m : Int) : Int := if a < 0 then -(nearI (absI a * n) m) else nearI (absI a * n) m
def partB (a n m : Int) : Bool := partG a n m && mOk (partQ a n m)
def partV (a n m : Int) : Int := if partB a n m then partQ a n m else 0

theorem mul_bd (a n : Int) (h0 : 0 ≤ a) (h1 : a ≤ 1000000000000) (k0 : 0 ≤ n) (k1 : n ≤ 1000000) : 0 ≤ a * n ∧ a * n ≤ 1000000000000000000 := by
  refine ⟨Int.mul_nonneg h0 k0, ?_⟩
  calc a * n ≤ 1000000000000 * n := Int.mul_le_mul_of_nonneg_right h1 k0
    _ ≤ 1000000000000 * 1000000 := Int.mul_le_mul_of_nonneg_left k1 (by omega)
    _ = 1000000000000000000 := by decide

theorem sMoneyPart_any (a n m : Int) (w : World) :
    Calls Try.prog 22 #[.int .i64 a, .int .i64 n, .int .i64 m] w fun e w' => e = .returned (.tuple #[.int .i64 (partV a n m), .bool (partB a n m)]) ∧ w = w' := by
  cases ha : mOk a
  · go_enter Try.func22, Try.ntmps22
    go_wp2_with (first | (go_at_call 13; ((with_reducible refine (sMoneyOk_any _ _).mono ?_); rintro e w' ⟨rfl, rfl⟩)) | (go_at_call 31; ((with_reducible refine (l1In_any _ _ _ _).mono ?_); rintro e w' ⟨rfl, rfl⟩)))
    go_ret2
    exact ⟨by simp [partV, partB, partG, ha], rfl⟩
  cases hn : inB n 0 1000000
  · go_enter Try.func22, Try.ntmps22
    go_wp2_with (first | (go_at_call 13; ((with_reducible refine (sMoneyOk_any _ _).mono ?_); rintro e w' ⟨rfl, rfl⟩)) | (go_at_call 31; ((with_reducible refine (l1In_any _ _ _ _).mono ?_); rintro e w' ⟨rfl, rfl⟩)))
    go_ret2
    exact ⟨by simp [partV, partB, partG, hn], rfl⟩
  cases hm : inB m 1 1000000
  · go_enter Try.func22, Try.ntmps22
    go_wp2_with (first | (go_at_call 13; ((with_reducible refine (sMoneyOk_any _ _).mono ?_); rintro e w' ⟨rfl, rfl⟩)) | (go_at_call 31; ((with_reducible refine (l1In_any _ _ _ _).mono ?_); rintro e w' ⟨rfl, rfl⟩)))
    go_ret2
    exact ⟨by simp [partV, partB, partG, hm], rfl⟩
  have h1 := mOk_true ha
  have h2 := inB_true hn
  have h3 := inB_true hm
  by_cases hneg : a < 0
  · obtain ⟨b0, b1⟩ := mul_bd (-a) n (by omega) (by omega) (by omega) (by omega)
    obtain ⟨c0, c1⟩ := nearI_bd (-a * n) m b0 (by omega)
    have hpq : partQ a n m = -nearI (-a * n) m := by simp [partQ, absI, hneg]
    have HQ := Lib.hid hpq
    clear hpq
    cases hq : mOk (-nearI (-a * n) m)
    all_goals
      go_enter Try.func22, Try.ntmps22
      go_wp2_with (first | (go_at_call 13; ((with_reducible refine (sMoneyOk_any _ _).mono ?_); rintro e w' ⟨rfl, rfl⟩)) | (go_at_call 31; ((with_reducible refine (l1In_any _ _ _ _).mono ?_); rintro e w' ⟨rfl, rfl⟩)) | (go_at_call 38; ((with_reducible refine (l2Near_any _ _ _ b0 b1 (by omega) (by omega)).mono ?_); rintro e w' ⟨rfl, rfl⟩)))
      go_ret2
      exact ⟨by simp [partV, partB, partG, HQ.out, ha, hn, hm, hq], rfl⟩
  · obtain ⟨b0, b1⟩ := mul_bd a n (by omega) (by omega) (by omega) (by omega)
    obtain ⟨c0, c1⟩ := nearI_bd (a * n) m b0 (by omega)
    have hpq : partQ a n m = nearI (a * n) m := by simp [partQ, absI, hneg]
    have HQ := Lib.hid hpq
    clear hpq
    cases hq : mOk (nearI (a * n) m)
    all_goals
      go_enter Try.func22, Try.ntmps22
      go_wp2_with (first | (go_at_call 13; ((with_reducible refine (sMoneyOk_any _ _).mono ?_); rintro e w' ⟨rfl, rfl⟩)) | (go_at_call 31; ((with_reducible refine (l1In_any _ _ _ _).mono ?_); rintro e w' ⟨rfl, rfl⟩)) | (go_at_call 38; ((with_reducible refine (l2Near_any _ _ _ b0 b1 (by omega) (by omega)).mono ?_); rintro e w' ⟨rfl, rfl⟩)))
      go_ret2
      exact ⟨by simp [partV, partB, partG, HQ.out, ha, hn, hm, hq], rfl⟩

theorem iMoneyPart_no (a n m : Int) (w : World) (h : partG a n m = false) :
    Calls Try.prog 23 #[.int .i64 a, .int .i64 n, .int .i64 m] w fun e w' => e = .returned (.tuple #[.int .i64 (partV a n m), .bool (partB a n m)]) ∧ w = w' := by
  have H := Lib.hid h
  clear h
  cases ha : mOk a
  · go_enter Try.func23, Try.ntmps23
    go_wp2_with (first | (go_at_call 14; ((with_reducible refine (iMoneyOk_any _ _).mono ?_); rintro e w' ⟨rfl, rfl⟩)) | (go_at_call 32; ((with_reducible refine (in_any _ _ _ _).mono ?_); rintro e w' ⟨rfl, rfl⟩)))
    go_ret2
    exact ⟨by simp [partV, partB, H.out], rfl⟩
  cases hn : inB n 0 1000000
  · go_enter Try.func23, Try.ntmps23
    go_wp2_with (first | (go_at_call 14; ((with_reducible refine (iMoneyOk_any _ _).mono ?_); rintro e w' ⟨rfl, rfl⟩)) | (go_at_call 32; ((with_reducible refine (in_any _ _ _ _).mono ?_); rintro e w' ⟨rfl, rfl⟩)))
    go_ret2
    exact ⟨by simp [partV, partB, H.out], rfl⟩
  cases hm : inB m 1 1000000
  · go_enter Try.func23, Try.ntmps23
    go_wp2_with (first | (go_at_call 14; ((with_reducible refine (iMoneyOk_any _ _).mono ?_); rintro e w' ⟨rfl, rfl⟩)) | (go_at_call 32; ((with_reducible refine (in_any _ _ _ _).mono ?_); rintro e w' ⟨rfl, rfl⟩)))
    go_ret2
    exact ⟨by simp [partV, partB, H.out], rfl⟩
  · have := H.out
    simp [partG, ha, hn, hm] at this

theorem absI_bd (a : Int) (h : -1000000000000 ≤ a ∧ a ≤ 1000000000000) : 0 ≤ absI a ∧ absI a ≤ 1000000000000 := by unfold absI; omega

theorem iMoneyPart_yes (a n m : Int) (w : World) (h : partG a n m = true) :
    Calls Try.prog 23 #[.int .i64 a, .int .i64 n, .int .i64 m] w fun e w' => e = .returned (.tuple #[.int .i64 (partV a n m), .bool (partB a n m)]) ∧ ∃ k, w' = w.drewN k := by
  have H := Lib.hid h
  simp only [partG, Bool.and_eq_true] at h
  obtain ⟨⟨ha, hn⟩, hm⟩ := h
  have h1 := mOk_true ha
  have h2 := inB_true hn
  have h3 := inB_true hm
  obtain ⟨s0, s1⟩ := absI_bd a h1
  obtain ⟨b0, b1⟩ := mul_bd (absI a) n s0 s1 (by omega) (by omega)
  obtain ⟨d0, d1, d2, d3⟩ := div_facts (absI a * n) m b0 (by omega)
  rcases near_cases (absI a * n) m with ⟨g1, hq⟩ | ⟨g2, g3, hq⟩ | ⟨g2, g3, hq⟩ | ⟨g1, hq⟩
  all_goals
    have HQ := Lib.hid hq
    clear hq
    by_cases hneg : a < 0
    · have hp : partQ a n m = -nearI (absI a * n) m := by simp [partQ, hneg]
      rw [HQ.out] at hp
      have HP := Lib.hid hp
      clear hp
      go_enter Try.func23, Try.ntmps23
      go_wp2_with (first | (go_at_call 14; ((with_reducible refine (iMoneyOk_any _ _).mono ?_); rintro e w' ⟨rfl, rfl⟩)) | (go_at_call 32; ((with_reducible refine (in_any _ _ _ _).mono ?_); rintro e w' ⟨rfl, rfl⟩)) | (go_at_call 39; ((with_reducible refine (size_any _ _ (by omega) (by omega)).mono ?_); rintro e w' ⟨rfl, rfl⟩)))
      go_quiet (fail)
      go_wp2_with (go_at_call 33; ((with_reducible refine (amount_any _ _ _).mono ?_); rintro e w' ⟨rfl, rfl⟩))
      go_ret2
      exact ⟨by simp [partV, partB, H.out, HP.out, amtV, amtB], _, rfl⟩
    · have hp : partQ a n m = nearI (absI a * n) m := by simp [partQ, hneg]
      rw [HQ.out] at hp
      have HP := Lib.hid hp
      clear hp
      go_enter Try.func23, Try.ntmps23
      go_wp2_with (first | (go_at_call 14; ((with_reducible refine (iMoneyOk_any _ _).mono ?_); rintro e w' ⟨rfl, rfl⟩)) | (go_at_call 32; ((with_reducible refine (in_any _ _ _ _).mono ?_); rintro e w' ⟨rfl, rfl⟩)) | (go_at_call 39; ((with_reducible refine (size_any _ _ (by omega) (by omega)).mono ?_); rintro e w' ⟨rfl, rfl⟩)))
      go_quiet (fail)
      go_wp2_with (go_at_call 33; ((with_reducible refine (amount_any _ _ _).mono ?_); rintro e w' ⟨rfl, rfl⟩))
      go_ret2
      exact ⟨by simp [partV, partB, H.out, HP.out, amtV, amtB], _, rfl⟩

theorem iMoneyPart_any (a n m : Int) (w : World) :
    Calls Try.prog 23 #[.int .i64 a, .int .i64 n, .int .i64 m] w fun e w' => e = .returned (.tuple #[.int .i64 (partV a n m), .bool (partB a n m)]) ∧ ∃ k, w' = w.drewN k := by
  cases h : partG a n m
  · exact (iMoneyPart_no a n m w h).mono fun e w' ⟨he, hw⟩ => ⟨he, 0, by rw [← hw]; rfl⟩
  · exact iMoneyPart_yes a n m w h

end My
end Go.Proofs.Ytdoiklcaiafcpaa
