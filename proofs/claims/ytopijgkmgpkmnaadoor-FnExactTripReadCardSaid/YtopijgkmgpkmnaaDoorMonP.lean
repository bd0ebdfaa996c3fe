/- Amounts that are read: plain facts. -/
import Derived.Test.YtopijgkmgpkmnaaDoorNumP
import Derived.Test.YtopijgkmgpkmnaaDoorMoneyW
import Derived.Lib.IndexMore
import Derived.Lib.Replace
namespace Go.Proofs.YtopijgkmgpkmnaaDoor
open Go.RowKit Go.Deep
set_option linter.unusedVariables false
namespace My

def IsM (T : List UInt8) (n : Int) : Prop := mOk n = true ∧ moneyT n = T
theorem mOk_bd {n : Int} (h : mOk n = true) : -1000000000000 ≤ n ∧ n ≤ 1000000000000 := by
  unfold mOk inB at h
  simpa using h
theorem parse_all : ∀ (k : Nat) (D : List UInt8), D.length = k → (∀ x ∈ D, isDig x) → valD D < 18446744073709551616 → Lib.parseUint10 0 D = .ok (valD D)
  | 0, D, h, _, _ => by
    obtain rfl := List.eq_nil_of_length_eq_zero h
    rfl
  | k + 1, D, h, hd, hb => by
    rcases List.eq_nil_or_concat D with rfl | ⟨l, c, rfl⟩
    · simp at h
    · rw [List.concat_eq_append] at *
      rw [valD_snoc] at hb ⊢
      rw [List.length_append, List.length_singleton] at h
      exact parse_snoc l 0 (valD l) c (parse_all k l (by omega) (fun x hx => hd x (by simp [hx])) (by omega)) (hd c (by simp)) hb
theorem atoi_digs {c : UInt8} {l : List UInt8} (hd : ∀ x ∈ c :: l, isDig x) (hb : valD (c :: l) ≤ 9223372036854775807) : Lib.atoiAll (c :: l) = .ok (valD (c :: l) : Int) := by
  have hm : Lib.parseMag (c :: l) = .ok (valD (c :: l)) := by
    unfold Lib.parseMag
    rw [if_neg (by simp)]
    exact parse_all _ _ rfl hd (by omega)
  have hc := hd c (by simp)
  unfold isDig at hc
  unfold Lib.atoiAll
  simp only
  rw [if_neg (by omega), hm]
  simp only
  rw [if_neg (by omega), if_neg (by omega), if_neg (by omega)]
theorem atoi_minus {D : List UInt8} (hne : D ≠ []) (hd : ∀ x ∈ D, isDig x) (hb : valD D ≤ 9223372036854775807) : Lib.atoiAll (45 :: D) = .ok (-(valD D : Int)) := by
  have hm : Lib.parseMag D = .ok (valD D) := by
    unfold Lib.parseMag
    rw [if_neg hne]
    exact parse_all _ _ rfl hd (by omega)
  unfold Lib.atoiAll
  have e : (45 : UInt8).toNat = 45 := rfl
  simp only
  rw [if_pos (Or.inr e), hm]
  simp only
  rw [if_neg (by simp [e]), if_neg (by omega), if_pos e]

theorem idx_at : ∀ (a b : List UInt8) (c : UInt8), (∀ x ∈ a, x ≠ c) → Lib.index (a ++ c :: b) [c] = a.length
  | [], b, c, _ => by simp [Lib.index]
  | x :: a, b, c, h => by
    have hx : x ≠ c := h x (by simp)
    have ih := idx_at a b c (fun y hy => h y (by simp [hy]))
    simp only [List.cons_append, Lib.index]
    have : ([c] : List UInt8).isPrefixOf (x :: (a ++ c :: b)) = false := by
      simp [List.isPrefixOf, Ne.symm hx]
    rw [this, ih]
    simp
theorem repl_one (a b : List UInt8) (c : UInt8) (h : ∀ x ∈ a, x ≠ c) : Lib.replace (a ++ c :: b) [c] [] 1 = a ++ b := by
  have hi := idx_at a b c h
  have hc : 1 ≤ Lib.count (a ++ c :: b) [c] := by
    rw [Lib.count_hit (by simp) hi]
    omega
  have hn : Lib.replaceNum (a ++ c :: b) [c] 1 = 1 := by
    unfold Lib.replaceNum
    rw [if_neg (by omega)]
    rfl
  unfold Lib.replace
  rw [if_neg (by simp), hn, Lib.replaceK_hit _ _ 0 _ _ hi]
  simp [Lib.replaceK]
theorem replK_len (old : List UInt8) : ∀ (k : Nat) (s : List UInt8), (Lib.replaceK old [] k s).length ≤ s.length
  | 0, s => by simp [Lib.replaceK]
  | k + 1, s => by
    simp only [Lib.replaceK]
    split
    · exact Nat.le_refl _
    · have := replK_len old k (s.drop ((Lib.index s old).toNat + old.length))
      simp only [List.length_append, List.length_take, List.length_drop, List.length_nil] at *
      omega
theorem repl_len (s old : List UInt8) (n : Int) : (Lib.replace s old [] n).length ≤ s.length := by
  unfold Lib.replace
  split
  · exact Nat.le_refl _
  · exact replK_len _ _ _

/-- The parts of an amount's text. -/
theorem money_shape {T : List UInt8} {n : Int} (h : IsM T n) : ∃ (q d1 d2 : Nat) (P : List UInt8), T = P ++ [46, UInt8.ofNat (48 + d1), UInt8.ofNat (48 + d2)] ∧ d1 < 10 ∧ d2 < 10 ∧ q ≤ 10000000000 ∧
    ((0 ≤ n ∧ P = Lib.decDigits q ∧ n = q * 100 + d1 * 10 + d2) ∨ (n < 0 ∧ P = 45 :: Lib.decDigits q ∧ n = -((q : Int) * 100 + d1 * 10 + d2))) := by
  obtain ⟨h1, rfl⟩ := h
  have hb := mOk_bd h1
  obtain ⟨u, hu⟩ : ∃ u, u = absN n := ⟨_, rfl⟩
  have hu2 : u = n.natAbs := hu
  unfold moneyT moneyU
  rw [← hu]
  refine ⟨u / 100, u % 100 / 10, u % 100 % 10, (if n < 0 then [45] else []) ++ Lib.decDigits (u / 100), ?_, by omega, by omega, by omega, ?_⟩
  · rw [dec_one (u := u % 100 / 10) (by omega), dec_one (u := u % 100 % 10) (by omega)]
    simp
  · by_cases hn : n < 0
    · refine Or.inr ⟨hn, by rw [if_pos hn]; rfl, by omega⟩
    · refine Or.inl ⟨by omega, by rw [if_neg hn]; rfl, by omega⟩
theorem dig_isDig {d : Nat} (h : d < 10) : isDig (UInt8.ofNat (48 + d)) := by unfold isDig; rw [digB h]; omega
theorem dig_ne46 {c : UInt8} (h : isDig c) : c ≠ 46 := by
  unfold isDig at h
  rintro rfl
  have e : (46 : UInt8).toNat = 46 := rfl
  omega
theorem dig_ne45 {c : UInt8} (h : isDig c) : c ≠ 45 := by
  unfold isDig at h
  rintro rfl
  have e : (45 : UInt8).toNat = 45 := rfl
  omega
theorem valD_app2 (q d1 d2 : Nat) (h1 : d1 < 10) (h2 : d2 < 10) : valD (Lib.decDigits q ++ [UInt8.ofNat (48 + d1), UInt8.ofNat (48 + d2)]) = q * 100 + d1 * 10 + d2 := by
  rw [show Lib.decDigits q ++ [UInt8.ofNat (48 + d1), UInt8.ofNat (48 + d2)] = (Lib.decDigits q ++ [UInt8.ofNat (48 + d1)]) ++ [UInt8.ofNat (48 + d2)] from by simp]
  rw [valD_snoc, valD_snoc, dec_val, digB h1, digB h2]
  omega
/-- The program's way gives the number back. -/
theorem money_atoi {T : List UInt8} {n : Int} (h : IsM T n) : Lib.atoiAll (Lib.replace T [46] [] 1) = .ok n := by
  obtain ⟨q, d1, d2, P, rfl, h1, h2, h3, hn⟩ := money_shape h
  have hall : ∀ x ∈ Lib.decDigits q ++ [UInt8.ofNat (48 + d1), UInt8.ofNat (48 + d2)], isDig x := by
    intro x hx
    simp only [List.mem_append, List.mem_cons, List.not_mem_nil, or_false] at hx
    rcases hx with hx | rfl | rfl
    · exact dec_all q x hx
    · exact dig_isDig h1
    · exact dig_isDig h2
  have hv := valD_app2 q d1 d2 h1 h2
  have hP : ∀ x ∈ P, x ≠ 46 := by
    intro x hx
    rcases hn with ⟨_, rfl, _⟩ | ⟨_, rfl, _⟩
    · exact dig_ne46 (dec_all q x hx)
    · rcases List.mem_cons.1 hx with rfl | hx
      · decide
      · exact dig_ne46 (dec_all q x hx)
  rw [repl_one P _ 46 hP]
  rcases hn with ⟨_, rfl, hn⟩ | ⟨_, rfl, hn⟩
  · obtain ⟨D, hD⟩ : ∃ D, D = Lib.decDigits q ++ [UInt8.ofNat (48 + d1), UInt8.ofNat (48 + d2)] := ⟨_, rfl⟩
    rw [← hD] at hall hv ⊢
    cases D with
    | nil => exact absurd hD.symm (by simp)
    | cons c l =>
      rw [atoi_digs hall (by omega), hv]
      congr 1
      omega
  · rw [List.cons_append, atoi_minus (by simp) hall (by omega), hv]
    congr 1
    omega
theorem IsM.inj {T : List UInt8} {n m : Int} (h : IsM T n) (h' : IsM T m) : n = m := by
  have := (money_atoi h).symm.trans (money_atoi h')
  injection this
theorem mwT_is {T : List UInt8} {n : Int} (hT : T ≠ []) : mwT n = T ↔ IsM T n := by
  unfold mwT IsM
  constructor
  · intro h
    split at h
    · rename_i hc
      exact ⟨hc, h⟩
    · exact absurd h.symm hT
  · rintro ⟨h1, h2⟩
    rw [if_pos h1, h2]
theorem moneyT_ne (n : Int) : moneyT n ≠ [] := by
  unfold moneyT moneyU
  simp
/-- What the reference's way sees. -/
theorem mr_told {T : List UInt8} {n : Int} {k : Nat} (h : IsM T n) (hl : T.length = k + 3) : 1 ≤ k ∧ T[k]? = some 46 ∧ ∃ q d1 d2 : Nat, T[k + 1]? = some (UInt8.ofNat (48 + d1)) ∧ T[k + 2]? = some (UInt8.ofNat (48 + d2)) ∧ d1 < 10 ∧ d2 < 10 ∧ q ≤ 10000000000 ∧
    ((T.take k = Lib.decDigits q ∧ n = q * 100 + d1 * 10 + d2) ∨ (T.take k = 45 :: Lib.decDigits q ∧ n = -((q : Int) * 100 + d1 * 10 + d2))) := by
  obtain ⟨q, d1, d2, P, rfl, h1, h2, h3, hn⟩ := money_shape h
  have hP : P.length = k := by simp at hl; exact hl
  have hq : 1 ≤ (Lib.decDigits q).length := by
    have := dec_ne q
    cases hh : Lib.decDigits q with
    | nil => exact absurd hh this
    | cons a b => simp
  refine ⟨?_, ?_, q, d1, d2, ?_, ?_, h1, h2, h3, ?_⟩
  · rcases hn with ⟨_, rfl, _⟩ | ⟨_, rfl, _⟩
    · omega
    · simp at hP; omega
  · rw [← hP, List.getElem?_append_right (Nat.le_refl _)]; simp
  · rw [← hP, List.getElem?_append_right (by omega)]; simp
  · rw [← hP, List.getElem?_append_right (by omega)]; simp
  · rw [← hP, List.take_left']
    · rcases hn with ⟨_, e, hn⟩ | ⟨_, e, hn⟩
      · exact Or.inl ⟨e, hn⟩
      · exact Or.inr ⟨e, hn⟩
    · rfl
theorem mr_short {T : List UInt8} {n : Int} (h : IsM T n) : 4 ≤ T.length := by
  obtain ⟨q, d1, d2, P, rfl, h1, h2, h3, hn⟩ := money_shape h
  have hq : 1 ≤ (Lib.decDigits q).length := by
    have := dec_ne q
    cases hh : Lib.decDigits q with
    | nil => exact absurd hh this
    | cons a b => simp
  rcases hn with ⟨_, rfl, _⟩ | ⟨_, rfl, _⟩ <;> simp only [List.length_append, List.length_cons, List.length_nil] <;> omega
/-- .. and so the number is what was computed. -/
theorem mr_plus {T : List UInt8} {n v : Int} {k : Nat} {a b c : UInt8} (h : IsM T n) (hl : T.length = k + 3) (ha : T[k + 1]? = some a) (hb : T[k + 2]? = some b) (hc : T[0]? = some c) (h45 : c.toNat ≠ 45) (hv : NumV (T.take k) v) :
    0 ≤ v ∧ v ≤ 10000000000 ∧ n = v * 100 + (a.toNat - 48) * 10 + (b.toNat - 48) := by
  obtain ⟨h1, h2, q, d1, d2, h3, h4, h5, h6, h7, hn⟩ := mr_told h hl
  rw [ha] at h3; injection h3 with h3
  rw [hb] at h4; injection h4 with h4
  have ea : a.toNat = 48 + d1 := by rw [h3, digB h5]
  have eb : b.toNat = 48 + d2 := by rw [h4, digB h6]
  rcases hn with ⟨e, hn⟩ | ⟨e, hn⟩
  · rw [e] at hv
    rcases hv with ⟨u, hu, e2, rfl⟩ | ⟨_, hbad⟩
    · have := dec_inj e2
      omega
    · exact absurd rfl (hbad q (by omega))
  · exfalso
    have : (T.take k)[0]? = some c := by rw [List.getElem?_take_of_lt (by omega)]; exact hc
    rw [e] at this
    simp at this
    subst this
    exact h45 rfl
theorem mr_minus {T : List UInt8} {n v : Int} {k : Nat} {a b c : UInt8} (h : IsM T n) (hl : T.length = k + 3) (ha : T[k + 1]? = some a) (hb : T[k + 2]? = some b) (hc : T[0]? = some c) (h45 : c.toNat = 45) (hv : NumV ((T.take k).drop 1) v) :
    0 ≤ v ∧ v ≤ 10000000000 ∧ n = -(v * 100 + (a.toNat - 48) * 10 + (b.toNat - 48)) := by
  obtain ⟨h1, h2, q, d1, d2, h3, h4, h5, h6, h7, hn⟩ := mr_told h hl
  rw [ha] at h3; injection h3 with h3
  rw [hb] at h4; injection h4 with h4
  have ea : a.toNat = 48 + d1 := by rw [h3, digB h5]
  have eb : b.toNat = 48 + d2 := by rw [h4, digB h6]
  rcases hn with ⟨e, hn⟩ | ⟨e, hn⟩
  · exfalso
    have hk : (T.take k)[0]? = some c := by rw [List.getElem?_take_of_lt (by omega)]; exact hc
    rw [e] at hk
    have := dec_all q c (List.mem_of_getElem? hk)
    unfold isDig at this
    omega
  · rw [e] at hv
    simp only [List.drop_succ_cons, List.drop_zero] at hv
    rcases hv with ⟨u, hu, e2, rfl⟩ | ⟨_, hbad⟩
    · have := dec_inj e2
      omega
    · exact absurd rfl (hbad q (by omega))
end My
end Go.Proofs.YtopijgkmgpkmnaaDoor
