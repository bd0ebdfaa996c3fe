/- Numbers written in decimals: plain facts. -/
import Derived.Lib.AtoiAll
import Derived.Lib.ItoaNum
namespace Go.Proofs.YtopijgkmgpkmnaaDoor
set_option linter.unusedVariables false
namespace My

def isDig (c : UInt8) : Prop := 48 ≤ c.toNat ∧ c.toNat ≤ 57
def valD (l : List UInt8) : Nat := l.foldl (fun a c => a * 10 + (c.toNat - 48)) 0
theorem valD_snoc (l : List UInt8) (c : UInt8) : valD (l ++ [c]) = valD l * 10 + (c.toNat - 48) := by simp [valD]
theorem valD_nil : valD [] = 0 := rfl

theorem dec_big {u : Nat} (h : ¬ u < 10) : Lib.decDigits u = Lib.decDigits (u / 10) ++ [UInt8.ofNat (48 + u % 10)] := by rw [Lib.decDigits, dif_neg h]
theorem dec_one {u : Nat} (h : u < 10) : Lib.decDigits u = [UInt8.ofNat (48 + u)] := by rw [Lib.decDigits, dif_pos h]
theorem digB {d : Nat} (h : d < 10) : (UInt8.ofNat (48 + d)).toNat = 48 + d := by rw [UInt8.toNat_ofNat']; omega

theorem dec_all : ∀ u : Nat, ∀ c ∈ Lib.decDigits u, isDig c := by
  intro u
  induction u using Nat.strongRecOn with
  | ind u ih =>
    intro c hc
    by_cases h : u < 10
    · rw [dec_one h] at hc
      simp only [List.mem_singleton] at hc
      subst hc
      unfold isDig
      rw [digB h]
      omega
    · rw [dec_big h, List.mem_append] at hc
      rcases hc with hc | hc
      · exact ih (u / 10) (by omega) c hc
      · simp only [List.mem_singleton] at hc
        subst hc
        unfold isDig
        rw [digB (by omega)]
        omega
theorem dec_val : ∀ u : Nat, valD (Lib.decDigits u) = u := by
  intro u
  induction u using Nat.strongRecOn with
  | ind u ih =>
    by_cases h : u < 10
    · rw [dec_one h]
      simp [valD]; omega
    · rw [dec_big h, valD_snoc, ih (u / 10) (by omega), digB (by omega)]
      omega
theorem dec_inj {u v : Nat} (h : Lib.decDigits u = Lib.decDigits v) : u = v := by rw [← dec_val u, h, dec_val]
theorem dec_ne (u : Nat) : Lib.decDigits u ≠ [] := by
  by_cases h : u < 10
  · rw [dec_one h]; simp
  · rw [dec_big h]; simp
theorem dec_head : ∀ u : Nat, 1 ≤ u → ∃ c r, Lib.decDigits u = c :: r ∧ c.toNat ≠ 48 := by
  intro u
  induction u using Nat.strongRecOn with
  | ind u ih =>
    intro h1
    by_cases h : u < 10
    · refine ⟨_, [], dec_one h, ?_⟩
      rw [digB h]
      omega
    · obtain ⟨c, r, e, hc⟩ := ih (u / 10) (by omega) (by omega)
      refine ⟨c, r ++ [UInt8.ofNat (48 + u % 10)], ?_, hc⟩
      rw [dec_big h, e]
      rfl
theorem dec_len (k u : Nat) (h : u < 10 ^ (k + 1)) : (Lib.decDigits u).length ≤ k + 1 := by
  rw [Lib.decDigits_length]
  induction k generalizing u with
  | zero => rw [Lib.nDigits_small (by simpa using h)]; exact Nat.le_refl _
  | succ k ih =>
    by_cases c : u < 10
    · rw [Lib.nDigits_small c]; omega
    · rw [Lib.nDigits_big c]
      have := ih (u / 10) (by rw [Nat.pow_succ] at h; omega)
      omega
/-- Digits without a nought ahead are the number's. -/
theorem dec_of : ∀ (l : List UInt8) (c : UInt8), (∀ x ∈ c :: l, isDig x) → (l ≠ [] → c.toNat ≠ 48) → Lib.decDigits (valD (c :: l)) = c :: l ∧ (c.toNat ≠ 48 → 1 ≤ valD (c :: l)) := by
  intro l
  induction hn : l.length using Nat.strongRecOn generalizing l with
  | ind n ih =>
    intro c hd h0
    rcases List.eq_nil_or_concat l with rfl | ⟨l', x, rfl⟩
    · have hc := hd c (by simp)
      unfold isDig at hc
      have e : valD [c] = c.toNat - 48 := by simp [valD]
      rw [e]
      refine ⟨?_, fun h => by omega⟩
      rw [dec_one (by omega)]
      congr 1
      apply UInt8.toNat_inj.1
      rw [digB (by omega)]
      omega
    · have hlen : l'.length < n := by rw [← hn]; simp
      have hc0 : c.toNat ≠ 48 := h0 (by simp)
      rw [List.concat_eq_append] at hd ⊢
      obtain ⟨e, h1⟩ := ih l'.length hlen l' rfl c (fun y hy => hd y (by simp at hy ⊢; rcases hy with rfl | hy <;> simp [*])) (fun _ => hc0)
      have hx := hd x (by simp)
      unfold isDig at hx
      have hv : valD (c :: (l' ++ [x])) = valD (c :: l') * 10 + (x.toNat - 48) := by
        rw [show c :: (l' ++ [x]) = (c :: l') ++ [x] from rfl, valD_snoc]
      have := h1 hc0
      rw [hv]
      refine ⟨?_, fun _ => by omega⟩
      rw [dec_big (by omega), show (valD (c :: l') * 10 + (x.toNat - 48)) / 10 = valD (c :: l') from by omega, e, show (valD (c :: l') * 10 + (x.toNat - 48)) % 10 = x.toNat - 48 from by omega]
      have : UInt8.ofNat (48 + (x.toNat - 48)) = x := by
        apply UInt8.toNat_inj.1
        rw [digB (by omega)]
        omega
      rw [this]
      rfl
theorem valD_lt : ∀ (l : List UInt8), (∀ x ∈ l, isDig x) → valD l < 10 ^ l.length := by
  intro l
  induction hn : l.length using Nat.strongRecOn generalizing l with
  | ind n ih =>
    intro hd
    rcases List.eq_nil_or_concat l with rfl | ⟨l', x, rfl⟩
    · simp [valD]; subst hn; simp
    · rw [List.concat_eq_append] at hd hn ⊢
      rw [List.length_append, List.length_singleton] at hn
      subst hn
      have := ih l'.length (by omega) l' rfl (fun y hy => hd y (by simp [hy]))
      have hx := hd x (by simp)
      unfold isDig at hx
      rw [valD_snoc, Nat.pow_succ]
      omega

/-- What l2Num gives. -/
def NumV (s : List UInt8) (v : Int) : Prop := (∃ u : Nat, u < 1000000000000 ∧ s = Lib.decDigits u ∧ v = u) ∨ (v = -1 ∧ ∀ u : Nat, u < 1000000000000 → s ≠ Lib.decDigits u)
theorem num_short {s : List UInt8} (h : s.length < 1 ∨ 12 < s.length) : NumV s (-1) := by
  refine Or.inr ⟨rfl, fun u hu e => ?_⟩
  have h1 := dec_ne u
  have h2 := dec_len 11 u (by omega)
  rw [← e] at h1 h2
  rcases h with h | h
  · exact h1 (List.eq_nil_of_length_eq_zero (by omega))
  · omega
theorem num_zero {s : List UInt8} {c : UInt8} (h : 1 < s.length) (h0 : s[0]? = some c) (hc : c.toNat = 48) : NumV s (-1) := by
  refine Or.inr ⟨rfl, fun u hu e => ?_⟩
  by_cases h1 : 1 ≤ u
  · obtain ⟨c', r, e', hc'⟩ := dec_head u h1
    rw [e, e'] at h0
    simp at h0
    subst h0
    exact hc' hc
  · rw [e, dec_one (by omega)] at h
    simp at h
theorem num_bad {s : List UInt8} {c : UInt8} {i : Nat} (h0 : s[i]? = some c) (hc : ¬ isDig c) : NumV s (-1) := by
  refine Or.inr ⟨rfl, fun u hu e => ?_⟩
  subst e
  exact hc (dec_all u c (List.mem_of_getElem? h0))
theorem num_good {s : List UInt8} (h1 : 1 ≤ s.length) (h2 : s.length ≤ 12) (hz : ∀ c, 1 < s.length → s[0]? = some c → c.toNat ≠ 48) (hd : ∀ x ∈ s, isDig x) : NumV s (valD s) := by
  cases s with
  | nil => simp at h1
  | cons c l =>
    refine Or.inl ⟨valD (c :: l), ?_, ((dec_of l c hd ?_).1).symm, rfl⟩
    · have := valD_lt (c :: l) hd
      have : 10 ^ (c :: l).length ≤ 10 ^ 12 := Nat.pow_le_pow_right (by omega) h2
      omega
    · intro hl
      exact hz c (by cases l with | nil => exact absurd rfl hl | cons a b => simp) rfl

theorem parse_snoc : ∀ (l : List UInt8) (a v : Nat) (c : UInt8), Lib.parseUint10 a l = .ok v → isDig c → v * 10 + (c.toNat - 48) < 18446744073709551616 → Lib.parseUint10 a (l ++ [c]) = .ok (v * 10 + (c.toNat - 48))
  | [], a, v, c, h, hc, hb => by
    simp only [Lib.parseUint10] at h
    injection h with h
    subst h
    unfold isDig at hc
    simp only [List.nil_append, Lib.parseUint10]
    rw [if_pos (by omega), if_neg (by omega), if_neg (by omega)]
  | x :: l, a, v, c, h, hc, hb => by
    simp only [Lib.parseUint10] at h
    simp only [List.cons_append, Lib.parseUint10]
    split at h
    · rename_i h1
      rw [if_pos h1]
      split at h
      · cases h
      · rename_i h2
        rw [if_neg h2]
        split at h
        · cases h
        · rename_i h3
          rw [if_neg h3]
          exact parse_snoc l _ v c h hc hb
    · cases h
theorem parse_dec : ∀ u : Nat, u < 18446744073709551616 → Lib.parseUint10 0 (Lib.decDigits u) = .ok u := by
  intro u
  induction u using Nat.strongRecOn with
  | ind u ih =>
    intro hu
    by_cases h : u < 10
    · rw [dec_one h]
      have := parse_snoc [] 0 0 (UInt8.ofNat (48 + u)) rfl (by unfold isDig; rw [digB h]; omega) (by rw [digB h]; omega)
      rw [digB h] at this
      simpa using this
    · rw [dec_big h]
      have hd : u % 10 < 10 := by omega
      have := parse_snoc (Lib.decDigits (u / 10)) 0 (u / 10) (UInt8.ofNat (48 + u % 10)) (ih (u / 10) (by omega) (by omega)) (by unfold isDig; rw [digB hd]; omega) (by rw [digB hd]; omega)
      rw [digB hd] at this
      rw [this]
      congr 1
      omega
theorem mag_dec (u : Nat) (hu : u < 18446744073709551616) : Lib.parseMag (Lib.decDigits u) = .ok u := by
  unfold Lib.parseMag
  rw [if_neg (dec_ne u)]
  exact parse_dec u hu
theorem atoi_dec (u : Nat) (hu : u ≤ 9223372036854775807) : Lib.atoiAll (Lib.decDigits u) = .ok (u : Int) := by
  have hm := mag_dec u (by omega)
  have hall := dec_all u
  have hne := dec_ne u
  obtain ⟨l, hl⟩ : ∃ l, l = Lib.decDigits u := ⟨_, rfl⟩
  rw [← hl] at hm hall hne ⊢
  cases l with
  | nil => exact absurd rfl hne
  | cons c r =>
    have hc := hall c (by simp)
    unfold isDig at hc
    unfold Lib.atoiAll
    simp only
    rw [if_neg (by omega), hm]
    simp only
    rw [if_neg (by omega), if_neg (by omega), if_neg (by omega)]
theorem atoi_neg (u : Nat) (hu : u ≤ 9223372036854775808) : Lib.atoiAll (45 :: Lib.decDigits u) = .ok (-(u : Int)) := by
  have hm := mag_dec u (by omega)
  unfold Lib.atoiAll
  have e : (45 : UInt8).toNat = 45 := rfl
  simp only
  rw [if_pos (Or.inr e), hm]
  simp only
  rw [if_neg (by simp [e]), if_neg (by omega), if_pos e]
theorem atoi_itoa (n : Int) (h0 : -9223372036854775808 ≤ n) (h1 : n ≤ 9223372036854775807) : Lib.atoiAll (Lib.itoa n) = .ok n := by
  unfold Lib.itoa
  by_cases h : n < 0
  · rw [if_pos h, atoi_neg _ (by omega)]
    congr 1
    omega
  · rw [if_neg h, atoi_dec _ (by omega)]
    congr 1
    omega
theorem atoi_range {l : List UInt8} {v : Int} (h : Lib.atoiAll l = .ok v) : -9223372036854775808 ≤ v ∧ v ≤ 9223372036854775807 := by
  unfold Lib.atoiAll at h
  cases l with
  | nil => cases h
  | cons c r =>
    simp only at h
    split at h
    · cases h
    · cases h
    · split at h
      · cases h
      · split at h
        · cases h
        · injection h with h
          subst h
          split <;> omega
end My
end Go.Proofs.YtopijgkmgpkmnaaDoor
