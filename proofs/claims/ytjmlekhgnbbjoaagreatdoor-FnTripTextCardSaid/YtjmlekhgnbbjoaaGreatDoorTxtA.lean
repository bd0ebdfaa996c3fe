/- Several texts in one: WireB, NumP, Num, WireP, CutP, MonP, WireG, WireQ, Held, EnvN, WireX2, MonR, WireT, MonX, CutW, TripX, WireT2, OpenB. No conditions of their own. -/
import Derived.Test.YtjmlekhgnbbjoaaGreatDoorDrawV
import Derived.Lib.AtoiAll
import Derived.Lib.ItoaNum
import Derived.Test.YtjmlekhgnbbjoaaGreatDoorShelfB
import Derived.ChangeAgain
import Derived.Lib.IndexMore
import Derived.Test.YtjmlekhgnbbjoaaGreatDoorTripW
import Derived.Test.YtjmlekhgnbbjoaaGreatDoorMoneyW
import Derived.Lib.Replace
import Derived.Deep.RegionWith
import Derived.Stop.LaidErr
import Derived.Test.YtjmlekhgnbbjoaaGreatDoorBend
import Derived.Test.YtjmlekhgnbbjoaaGreatDoorDrawA
import Derived.Deep.SlicePairs
import Derived.ProofKit

/- FnWireBoth: words behind words. -/
namespace Go.Proofs.YtjmlekhgnbbjoaaGreatDoor
open Go.RowKit Go.Deep
set_option linter.unusedVariables false
namespace My

def strsOf (F : Nat → ByteArray) (n : Nat) : List Value := (List.range n).map fun i => .string (F i)
theorem strsOf_len (F : Nat → ByteArray) (n : Nat) : (strsOf F n).length = n := by simp [strsOf]
theorem strsOf_get {F : Nat → ByteArray} {n i : Nat} (h : i < n) : (strsOf F n)[i]? = some (.string (F i)) := by simp [strsOf, h]
theorem ownT_of_owns {w : World} {base e g n cap : Nat} {F : Nat → ByteArray} (h : w.ownsRow base e 1 (.slice (some ⟨g, 0, none⟩) n cap) n (strsOf F n)) : OwnT w g n F ∧ base ≤ g ∧ n ≤ cap := by
  obtain ⟨_, h | ⟨g', cap', cur, hv, hb, hh, hn, hc, hs, ht⟩⟩ := h
  · cases h.1
  · simp only [Value.slice.injEq, Option.some.injEq, Addr.mk.injEq, true_and, and_true] at hv
    obtain ⟨rfl, rfl⟩ := hv
    refine ⟨⟨e, cur, hh, fun i hi => ?_⟩, hb, hn⟩
    have h1 : (cur.toList.take (n * 1))[i]? = (strsOf F n)[i]? := by rw [ht]
    rw [List.getElem?_take_of_lt (by omega), strsOf_get hi] at h1
    simpa using h1
def appF (F : Nat → ByteArray) (n : Nat) (G : Nat → ByteArray) (i : Nat) : ByteArray := if i < n then F i else G (i - n)
theorem strsOf_app (F G : Nat → ByteArray) (n m : Nat) : strsOf F n ++ strsOf G m = strsOf (appF F n G) (n + m) := by
  apply List.ext_getElem?
  intro i
  rcases Nat.lt_or_ge i n with h | h
  · rw [List.getElem?_append_left (by rw [strsOf_len]; exact h), strsOf_get h, strsOf_get (by omega)]
    simp [appF, h]
  · rw [List.getElem?_append_right (by rw [strsOf_len]; exact h), strsOf_len]
    rcases Nat.lt_or_ge i (n + m) with k | k
    · rw [strsOf_get (by omega), strsOf_get k]
      have : ¬ i < n := by omega
      simp [appF, this]
    · rw [List.getElem?_eq_none (by rw [strsOf_len]; omega), List.getElem?_eq_none (by rw [strsOf_len]; omega)]

theorem wpList_append_str {w : World} {ops : Array Oper} {rest : List Oper} {o : Oper} {a : Act} {Q : Exit → Act → World → Prop} (hgd : o.guard = none) (s x : Operand)
    (ho : o.op = .call { callee := .builtin .append, args := #[s, x], argTypes := #[24, 24] }) (base g0 n c0 : Nat) (xs : List Value)
    (hs : a.eval s = .slice (some ⟨g0, 0, none⟩) n c0) (hown : w.ownsRow base 9 1 (.slice (some ⟨g0, 0, none⟩) n c0) n xs)
    (g1 m c1 : Nat) (hx : a.eval x = .slice (some ⟨g1, 0, none⟩) m c1) (F : Nat → ByteArray) (hF : OwnT w g1 m F) (hb : n + m ≤ 1000) (hbase : base ≤ w.heap.size)
    (h : ∀ g cap w', w'.ownsRow base 9 1 (.slice (some ⟨g, 0, none⟩) (n + m) cap) (n + m) (xs ++ strsOf F m) → Below base w w' → wpList Tryz.prog ops Q rest (a.put o.dst (.slice (some ⟨g, 0, none⟩) (n + m) cap)) w') :
    wpList Tryz.prog ops Q (o :: rest) a w := by
  obtain ⟨i0, hi0, hz0, hz1, hz2⟩ := info_parts infoStr
  by_cases hm : m = 0
  · subst hm
    have hrun := run_append_room_src (P := Tryz.prog) (w := w) 24 24 o.type 9 i0 Tryz.underlying24 hi0 g0 0 n c0 (.slice (some ⟨g1, 0, none⟩) 0 c1) 0 [] (Src.ofSlice w Tryz.underlying24 ⟨g1, 0, none⟩ 0 c1 [] (by simp) (fun j u hu => by simp at hu) (fun u hu => by cases hu))
      (by rcases hown.2 with ⟨h', _⟩ | ⟨g', cap', cur, h', _, _, hnc, _⟩
          · cases h'
          · simp only [Value.slice.injEq] at h'; omega) (fun j hj => by simp at hj) (fun j hj => by simp at hj)
    have hset : w.setCells g0 (0 + n * i0.size) [] = w := rfl
    rw [hset] at hrun
    refine wpList_plain hgd fun K hK' => ?_
    unfold Oper.wp
    simp [execOp, ho, resolve, invoke, builtin, hs, hx, hrun, Result.andThen]
    have := h g0 c0 w (by simpa [strsOf] using hown) (Below.refl _ _)
    exact hK' _ _ (by simpa using this)
  · refine wpList_append_lies w hgd s x 24 ho base 9 i0 (.string ⟨#[]⟩) 1 16 Tryz.underlying24 hi0 hz0 hz1 hz2 rfl (by decide) (.slice (some ⟨g0, 0, none⟩) n c0) n xs hs hown ⟨g1, 0, none⟩ m c1 (strsOf F m) hx (by rw [strsOf_len]; omega) ?_ ?_ (by omega) (by unfold maxLen; omega) (by omega) hbase w.heap.size rfl ?_
    · intro j u hu
      rcases Nat.lt_or_ge j m with hj | hj
      · rw [strsOf_get hj] at hu
        cases hu
        rw [addr_addS, Nat.zero_add]
        exact hF.cell hj
      · rw [List.getElem?_eq_none (by rw [strsOf_len]; omega)] at hu; cases hu
    · intro u hu
      simp only [strsOf, List.mem_map] at hu
      obtain ⟨i, _, rfl⟩ := hu
      rfl
    · intro g cap w' hown' hgrow _ _
      refine h g cap w' hown' ?_
      have hg0 := (hown.lt g0 rfl).1
      exact (Below.refl base w).grown hgrow hbase (by intro q hq; simp [Value.ownBlock] at hq; omega)

theorem putL_congr {F G : Nat → ByteArray} : ∀ n, (∀ i, i < n → F i = G i) → putL F n = putL G n
  | 0, _ => rfl
  | n + 1, h => by simp only [putL]; rw [putL_congr n (fun i hi => h i (by omega)), h n (by omega)]
theorem putL_app (F G : Nat → ByteArray) (n : Nat) : ∀ m, putL (appF F n G) (n + m) = putL F n ++ putL G m
  | 0 => by
    rw [Nat.add_zero]
    simp only [putL, List.append_nil]
    exact putL_congr n (fun i hi => by simp [appF, hi])
  | m + 1 => by
    rw [← Nat.add_assoc]
    simp only [putL]
    rw [putL_app F G n m]
    have : ¬ n + m < n := by omega
    simp [appF, this]
theorem both_law (F G : Nat → ByteArray) (n m : Nat) : wpT (appF F n G) (n + m) = [] ∨ wpT (appF F n G) (n + m) = wpT F n ++ wpT G m := by
  unfold wpT
  by_cases h : n + m ≤ 40 ∧ (putL (appF F n G) (n + m)).length ≤ 6000
  · rw [if_pos h]
    rw [putL_app] at h ⊢
    rw [List.length_append] at h
    rw [if_pos (by omega), if_pos (by omega)]
    exact Or.inr rfl
  · rw [if_neg h]
    exact Or.inl rfl
theorem sumZ_bound {F : Nat → ByteArray} {n : Nat} (h : ∀ i, i < n → (F i).size ≤ 6000) : ∀ k, k ≤ n → sumZ F k ≤ 6000 * k
  | 0, _ => by simp [sumZ]
  | k + 1, hk => by
    have := sumZ_bound h k (by omega)
    have := h k (by omega)
    simp only [sumZ]
    omega
theorem sumZ_congr {F G : Nat → ByteArray} : ∀ n, (∀ i, i < n → F i = G i) → sumZ F n = sumZ G n
  | 0, _ => rfl
  | n + 1, h => by simp only [sumZ]; rw [sumZ_congr n (fun i hi => h i (by omega)), h n (by omega)]
theorem wpT_size {F : Nat → ByteArray} {n : Nat} : (txt (wpT F n)).size ≤ 6000 := by
  rw [txt_size]
  unfold wpT
  split
  · rename_i h; exact h.2
  · exact Nat.zero_le _

end My
end Go.Proofs.YtjmlekhgnbbjoaaGreatDoor

/- Numbers written in decimals: plain facts. -/
namespace Go.Proofs.YtjmlekhgnbbjoaaGreatDoor
set_option linter.unusedVariables false
namespace My

def isDig (c : UInt8) : Prop := 48 ≤ c.toNat ∧ c.toNat ≤ 57
def valD (l : List UInt8) : Nat := l.foldl (fun a c => a * 10 + (c.toNat - 48)) 0
theorem valD_snoc (l : List UInt8) (c : UInt8) : valD (l ++ [c]) = valD l * 10 + (c.toNat - 48) := by simp [valD]
theorem valD_nil : valD [] = 0 := rfl

theorem dec_big {u : Nat} (h : ¬ u < 10) : Lib.decDigits u = Lib.decDigits (u / 10) ++ [UInt8.ofNat (48 + u % 10)] := by rw [Lib.decDigits, dif_neg h]
theorem dec_one {u : Nat} (h : u < 10) : Lib.decDigits u = [UInt8.ofNat (48 + u)] := by rw [Lib.decDigits, dif_pos h]
theorem digB {d : Nat} (h : d < 10) : (UInt8.ofNat (48 + d)).toNat = 48 + d := by rw [UInt8.toNat_ofNat']; omega

theorem dec_all : ∀ u : Nat, ∀ c ∈ Lib.decDigits u, isDig c := by
  intro u
  induction u using Nat.strongRecOn with
  | ind u ih =>
    intro c hc
    by_cases h : u < 10
    · rw [dec_one h] at hc
      simp only [List.mem_singleton] at hc
      subst hc
      unfold isDig
      rw [digB h]
      omega
    · rw [dec_big h, List.mem_append] at hc
      rcases hc with hc | hc
      · exact ih (u / 10) (by omega) c hc
      · simp only [List.mem_singleton] at hc
        subst hc
        unfold isDig
        rw [digB (by omega)]
        omega
theorem dec_val : ∀ u : Nat, valD (Lib.decDigits u) = u := by
  intro u
  induction u using Nat.strongRecOn with
  | ind u ih =>
    by_cases h : u < 10
    · rw [dec_one h]
      simp [valD]; omega
    · rw [dec_big h, valD_snoc, ih (u / 10) (by omega), digB (by omega)]
      omega
theorem dec_inj {u v : Nat} (h : Lib.decDigits u = Lib.decDigits v) : u = v := by rw [← dec_val u, h, dec_val]
theorem dec_ne (u : Nat) : Lib.decDigits u ≠ [] := by
  by_cases h : u < 10
  · rw [dec_one h]; simp
  · rw [dec_big h]; simp
theorem dec_head : ∀ u : Nat, 1 ≤ u → ∃ c r, Lib.decDigits u = c :: r ∧ c.toNat ≠ 48 := by
  intro u
  induction u using Nat.strongRecOn with
  | ind u ih =>
    intro h1
    by_cases h : u < 10
    · refine ⟨_, [], dec_one h, ?_⟩
      rw [digB h]
      omega
    · obtain ⟨c, r, e, hc⟩ := ih (u / 10) (by omega) (by omega)
      refine ⟨c, r ++ [UInt8.ofNat (48 + u % 10)], ?_, hc⟩
      rw [dec_big h, e]
      rfl
theorem dec_len (k u : Nat) (h : u < 10 ^ (k + 1)) : (Lib.decDigits u).length ≤ k + 1 := by
  rw [Lib.decDigits_length]
  induction k generalizing u with
  | zero => rw [Lib.nDigits_small (by simpa using h)]; exact Nat.le_refl _
  | succ k ih =>
    by_cases c : u < 10
    · rw [Lib.nDigits_small c]; omega
    · rw [Lib.nDigits_big c]
      have := ih (u / 10) (by rw [Nat.pow_succ] at h; omega)
      omega
/-- Digits without a nought ahead are the number's. -/
theorem dec_of : ∀ (l : List UInt8) (c : UInt8), (∀ x ∈ c :: l, isDig x) → (l ≠ [] → c.toNat ≠ 48) → Lib.decDigits (valD (c :: l)) = c :: l ∧ (c.toNat ≠ 48 → 1 ≤ valD (c :: l)) := by
  intro l
  induction hn : l.length using Nat.strongRecOn generalizing l with
  | ind n ih =>
    intro c hd h0
    rcases List.eq_nil_or_concat l with rfl | ⟨l', x, rfl⟩
    · have hc := hd c (by simp)
      unfold isDig at hc
      have e : valD [c] = c.toNat - 48 := by simp [valD]
      rw [e]
      refine ⟨?_, fun h => by omega⟩
      rw [dec_one (by omega)]
      congr 1
      apply UInt8.toNat_inj.1
      rw [digB (by omega)]
      omega
    · have hlen : l'.length < n := by rw [← hn]; simp
      have hc0 : c.toNat ≠ 48 := h0 (by simp)
      rw [List.concat_eq_append] at hd ⊢
      obtain ⟨e, h1⟩ := ih l'.length hlen l' rfl c (fun y hy => hd y (by simp at hy ⊢; rcases hy with rfl | hy <;> simp [*])) (fun _ => hc0)
      have hx := hd x (by simp)
      unfold isDig at hx
      have hv : valD (c :: (l' ++ [x])) = valD (c :: l') * 10 + (x.toNat - 48) := by
        rw [show c :: (l' ++ [x]) = (c :: l') ++ [x] from rfl, valD_snoc]
      have := h1 hc0
      rw [hv]
      refine ⟨?_, fun _ => by omega⟩
      rw [dec_big (by omega), show (valD (c :: l') * 10 + (x.toNat - 48)) / 10 = valD (c :: l') from by omega, e, show (valD (c :: l') * 10 + (x.toNat - 48)) % 10 = x.toNat - 48 from by omega]
      have : UInt8.ofNat (48 + (x.toNat - 48)) = x := by
        apply UInt8.toNat_inj.1
        rw [digB (by omega)]
        omega
      rw [this]
      rfl
theorem valD_lt : ∀ (l : List UInt8), (∀ x ∈ l, isDig x) → valD l < 10 ^ l.length := by
  intro l
  induction hn : l.length using Nat.strongRecOn generalizing l with
  | ind n ih =>
    intro hd
    rcases List.eq_nil_or_concat l with rfl | ⟨l', x, rfl⟩
    · simp [valD]; subst hn; simp
    · rw [List.concat_eq_append] at hd hn ⊢
      rw [List.length_append, List.length_singleton] at hn
      subst hn
      have := ih l'.length (by omega) l' rfl (fun y hy => hd y (by simp [hy]))
      have hx := hd x (by simp)
      unfold isDig at hx
      rw [valD_snoc, Nat.pow_succ]
      omega

/-- What l2Num gives. -/
def NumV (s : List UInt8) (v : Int) : Prop := (∃ u : Nat, u < 1000000000000 ∧ s = Lib.decDigits u ∧ v = u) ∨ (v = -1 ∧ ∀ u : Nat, u < 1000000000000 → s ≠ Lib.decDigits u)
theorem num_short {s : List UInt8} (h : s.length < 1 ∨ 12 < s.length) : NumV s (-1) := by
  refine Or.inr ⟨rfl, fun u hu e => ?_⟩
  have h1 := dec_ne u
  have h2 := dec_len 11 u (by omega)
  rw [← e] at h1 h2
  rcases h with h | h
  · exact h1 (List.eq_nil_of_length_eq_zero (by omega))
  · omega
theorem num_zero {s : List UInt8} {c : UInt8} (h : 1 < s.length) (h0 : s[0]? = some c) (hc : c.toNat = 48) : NumV s (-1) := by
  refine Or.inr ⟨rfl, fun u hu e => ?_⟩
  by_cases h1 : 1 ≤ u
  · obtain ⟨c', r, e', hc'⟩ := dec_head u h1
    rw [e, e'] at h0
    simp at h0
    subst h0
    exact hc' hc
  · rw [e, dec_one (by omega)] at h
    simp at h
theorem num_bad {s : List UInt8} {c : UInt8} {i : Nat} (h0 : s[i]? = some c) (hc : ¬ isDig c) : NumV s (-1) := by
  refine Or.inr ⟨rfl, fun u hu e => ?_⟩
  subst e
  exact hc (dec_all u c (List.mem_of_getElem? h0))
theorem num_good {s : List UInt8} (h1 : 1 ≤ s.length) (h2 : s.length ≤ 12) (hz : ∀ c, 1 < s.length → s[0]? = some c → c.toNat ≠ 48) (hd : ∀ x ∈ s, isDig x) : NumV s (valD s) := by
  cases s with
  | nil => simp at h1
  | cons c l =>
    refine Or.inl ⟨valD (c :: l), ?_, ((dec_of l c hd ?_).1).symm, rfl⟩
    · have := valD_lt (c :: l) hd
      have : 10 ^ (c :: l).length ≤ 10 ^ 12 := Nat.pow_le_pow_right (by omega) h2
      omega
    · intro hl
      exact hz c (by cases l with | nil => exact absurd rfl hl | cons a b => simp) rfl

theorem parse_snoc : ∀ (l : List UInt8) (a v : Nat) (c : UInt8), Lib.parseUint10 a l = .ok v → isDig c → v * 10 + (c.toNat - 48) < 18446744073709551616 → Lib.parseUint10 a (l ++ [c]) = .ok (v * 10 + (c.toNat - 48))
  | [], a, v, c, h, hc, hb => by
    simp only [Lib.parseUint10] at h
    injection h with h
    subst h
    unfold isDig at hc
    simp only [List.nil_append, Lib.parseUint10]
    rw [if_pos (by omega), if_neg (by omega), if_neg (by omega)]
  | x :: l, a, v, c, h, hc, hb => by
    simp only [Lib.parseUint10] at h
    simp only [List.cons_append, Lib.parseUint10]
    split at h
    · rename_i h1
      rw [if_pos h1]
      split at h
      · cases h
      · rename_i h2
        rw [if_neg h2]
        split at h
        · cases h
        · rename_i h3
          rw [if_neg h3]
          exact parse_snoc l _ v c h hc hb
    · cases h
theorem parse_dec : ∀ u : Nat, u < 18446744073709551616 → Lib.parseUint10 0 (Lib.decDigits u) = .ok u := by
  intro u
  induction u using Nat.strongRecOn with
  | ind u ih =>
    intro hu
    by_cases h : u < 10
    · rw [dec_one h]
      have := parse_snoc [] 0 0 (UInt8.ofNat (48 + u)) rfl (by unfold isDig; rw [digB h]; omega) (by rw [digB h]; omega)
      rw [digB h] at this
      simpa using this
    · rw [dec_big h]
      have hd : u % 10 < 10 := by omega
      have := parse_snoc (Lib.decDigits (u / 10)) 0 (u / 10) (UInt8.ofNat (48 + u % 10)) (ih (u / 10) (by omega) (by omega)) (by unfold isDig; rw [digB hd]; omega) (by rw [digB hd]; omega)
      rw [digB hd] at this
      rw [this]
      congr 1
      omega
theorem mag_dec (u : Nat) (hu : u < 18446744073709551616) : Lib.parseMag (Lib.decDigits u) = .ok u := by
  unfold Lib.parseMag
  rw [if_neg (dec_ne u)]
  exact parse_dec u hu
theorem atoi_dec (u : Nat) (hu : u ≤ 9223372036854775807) : Lib.atoiAll (Lib.decDigits u) = .ok (u : Int) := by
  have hm := mag_dec u (by omega)
  have hall := dec_all u
  have hne := dec_ne u
  obtain ⟨l, hl⟩ : ∃ l, l = Lib.decDigits u := ⟨_, rfl⟩
  rw [← hl] at hm hall hne ⊢
  cases l with
  | nil => exact absurd rfl hne
  | cons c r =>
    have hc := hall c (by simp)
    unfold isDig at hc
    unfold Lib.atoiAll
    simp only
    rw [if_neg (by omega), hm]
    simp only
    rw [if_neg (by omega), if_neg (by omega), if_neg (by omega)]
theorem atoi_neg (u : Nat) (hu : u ≤ 9223372036854775808) : Lib.atoiAll (45 :: Lib.decDigits u) = .ok (-(u : Int)) := by
  have hm := mag_dec u (by omega)
  unfold Lib.atoiAll
  have e : (45 : UInt8).toNat = 45 := rfl
  simp only
  rw [if_pos (Or.inr e), hm]
  simp only
  rw [if_neg (by simp [e]), if_neg (by omega), if_pos e]
theorem atoi_itoa (n : Int) (h0 : -9223372036854775808 ≤ n) (h1 : n ≤ 9223372036854775807) : Lib.atoiAll (Lib.itoa n) = .ok n := by
  unfold Lib.itoa
  by_cases h : n < 0
  · rw [if_pos h, atoi_neg _ (by omega)]
    congr 1
    omega
  · rw [if_neg h, atoi_dec _ (by omega)]
    congr 1
    omega
theorem atoi_range {l : List UInt8} {v : Int} (h : Lib.atoiAll l = .ok v) : -9223372036854775808 ≤ v ∧ v ≤ 9223372036854775807 := by
  unfold Lib.atoiAll at h
  cases l with
  | nil => cases h
  | cons c r =>
    simp only at h
    split at h
    · cases h
    · cases h
    · split at h
      · cases h
      · split at h
        · cases h
        · injection h with h
          subst h
          split <;> omega
end My
end Go.Proofs.YtjmlekhgnbbjoaaGreatDoor

/- Numbers out of texts: the reference's l2Num, the program's number; what five listed variables give. -/
namespace Go.Proofs.YtjmlekhgnbbjoaaGreatDoor
open Go.RowKit Go.Deep
set_option linter.unusedVariables false
namespace My

def ErrAt (w : World) (n : String) : Prop := ∃ tp p, w.var? Tryz.prog n = some #[.iface tp p]
theorem ErrAt.below {w w' : World} {n : String} (h : ErrAt w n) (hb : Below w.heap.size w w') : ErrAt w' n := by
  obtain ⟨tp, p, h⟩ := h
  refine ⟨tp, p, ?_⟩
  unfold World.var? at h ⊢
  cases hg : Tryz.prog.globalNamed n with
  | none => rw [hg] at h; simp at h
  | some g =>
    rw [hg] at h
    simp only [Option.bind_some] at h ⊢
    have hlt : g < w.heap.size := by
      rcases Nat.lt_or_ge g w.heap.size with h' | h'
      · exact h'
      · rw [Array.getElem?_eq_none h'] at h; simp at h
    rw [hb.block g hlt]
    exact h
structure EnvN (w : World) : Prop where
  t : EnvT w
  syn : ErrAt w "strconv.ErrSyntax"
  rng : ErrAt w "strconv.ErrRange"
  sh : w.ShapedOpen Tryz.prog
theorem EnvN.below {w w' : World} (h : EnvN w) (hb : Below w.heap.size w w') : EnvN w' :=
  ⟨h.t.below hb, h.syn.below hb, h.rng.below hb, h.sh.keptBut (may := fun _ => False) (hb.frame _) (fun _ h => h.elim)⟩

/-- The program's number: of a text that Itoa writes, it; else false. -/
def NumberPost (s : List UInt8) (w : World) (e : Ending) (w' : World) : Prop :=
  ∃ (v : Int) (b : Bool), e = .returned (.tuple #[.int .i64 v, .bool b]) ∧ (b = true → s = Lib.itoa v) ∧ (∀ u : Int, -9223372036854775808 ≤ u → u ≤ 9223372036854775807 → s = Lib.itoa u → v = u ∧ b = true) ∧ -9223372036854775808 ≤ v ∧ v ≤ 9223372036854775807 ∧ Below w.heap.size w w'

theorem below_bw (w : World) (e : TypeId) (s : ByteArray) : Below w.heap.size w (Lib.bytesWorld w e s) :=
  ⟨rfl, rfl, rfl, by rw [Lib.bytesWorld_size]; omega, fun k hk => Lib.bytesWorld_at_old w e s k hk⟩

set_option maxRecDepth 100000 in
set_option maxHeartbeats 1000000 in
theorem number_any (s : ByteArray) (w : World) (hs : s.size ≤ 1048576) (h : EnvN w) : Calls Tryz.prog 14 #[.string s] w (NumberPost s.data.toList w) := by
  have H := Lib.hid h
  clear h
  cases ha : Lib.atoiAll s.data.toList with
  | ok v =>
    have hr := atoi_range ha
    have HA : Hid (Calls Tryz.prog 28 #[.string s] w fun e w' => e = .returned (.tuple #[.int .i64 v, .nilIface]) ∧ Below w.heap.size w w') := by
      refine (Tryz.strconv_Atoi_ok s (by omega) v ha w).mono ?_
      rintro e w' ⟨rfl, hw⟩
      refine ⟨rfl, ?_⟩
      rcases hw with rfl | ⟨t, rfl⟩
      · exact Below.refl _ _
      · exact below_bw _ _ _
    have HI := Lib.hid (fun w (h : EnvT w) => itoa_any v w hr.1 hr.2 h)
    have HU : Hid (∀ u : Int, -9223372036854775808 ≤ u → u ≤ 9223372036854775807 → s.data.toList = Lib.itoa u → v = u) := by
      intro u h0 h1 e
      have := atoi_itoa u h0 h1
      rw [← e, ha] at this
      injection this
    have HR := Lib.hid hr
    clear ha hr
    by_cases hb : s = txt (Lib.itoa v)
    · have HB : Hid (s.data.toList = Lib.itoa v) := by show _ = _; rw [hb, txt_data]
      subst hb
      obtain ⟨t, ht⟩ : ∃ t, t = txt (Lib.itoa v) := ⟨_, rfl⟩
      have HI : Hid (∀ w (h : EnvT w), Calls Tryz.prog 21 #[.int .i64 v] w fun e w' => e = .returned (.string t) ∧ Below w.heap.size w w') := by
        rw [ht]; exact HI.out
      rw [← ht] at HA HB HU hs ⊢
      clear ht
      go_enter Tryz.func14, Tryz.ntmps14
      go_wp2_with fail
      refine HA.out.mono ?_
      rintro e w1 ⟨rfl, hw⟩
      have B1 := Lib.hid hw
      have HT1 := Lib.hid ((H.out.t).below hw)
      clear hw
      go_wp2_with (go_at_call 21; ((with_reducible refine (HI.out _ HT1.out).mono ?_); rintro e w2 ⟨rfl, hb2⟩; have B2 := Lib.hid hb2; clear hb2))
      all_goals
        go_ret2
        exact ⟨v, true, by simp, fun _ => HB.out, fun u h0 h1 e => ⟨HU.out u h0 h1 e, rfl⟩, HR.out.1, HR.out.2, bT B1.out B2.out⟩
    · have HB : Hid (∀ u : Int, -9223372036854775808 ≤ u → u ≤ 9223372036854775807 → s.data.toList ≠ Lib.itoa u) := by
        intro u h0 h1 e
        apply hb
        rw [HU.out u h0 h1 e, ← e, data_txt]
      obtain ⟨t, ht⟩ : ∃ t, t = txt (Lib.itoa v) := ⟨_, rfl⟩
      have HI : Hid (∀ w (h : EnvT w), Calls Tryz.prog 21 #[.int .i64 v] w fun e w' => e = .returned (.string t) ∧ Below w.heap.size w w') := by
        rw [ht]; exact HI.out
      rw [← ht] at hb
      clear ht
      have hne : (t.toList == s.toList) = false := by rw [Lib.bytes_beq_false_iff]; exact fun e => hb e.symm
      go_enter Tryz.func14, Tryz.ntmps14
      go_wp2_with fail
      refine HA.out.mono ?_
      rintro e w1 ⟨rfl, hw⟩
      have B1 := Lib.hid hw
      have HT1 := Lib.hid ((H.out.t).below hw)
      clear hw
      go_wp2_with (go_at_call 21; ((with_reducible refine (HI.out _ HT1.out).mono ?_); rintro e w2 ⟨rfl, hb2⟩; have B2 := Lib.hid hb2; clear hb2))
      all_goals
        go_ret2
        exact ⟨v, false, by simp, (fun h => by cases h), fun u h0 h1 e => absurd e (HB.out u h0 h1), HR.out.1, HR.out.2, bT B1.out B2.out⟩
  | range =>
    have HB : Hid (∀ u : Int, -9223372036854775808 ≤ u → u ≤ 9223372036854775807 → s.data.toList ≠ Lib.itoa u) := by
      intro u h0 h1 e
      have := atoi_itoa u h0 h1
      rw [← e, ha] at this
      cases this
    obtain ⟨tp, p, hv⟩ := H.out.rng
    have HA := Lib.hid (Tryz.strconv_Atoi_range_var s (by omega) ha tp p w hv)
    have hsat : -9223372036854775808 ≤ Lib.atoiSat s.data.toList ∧ Lib.atoiSat s.data.toList ≤ 9223372036854775807 := by
      unfold Lib.atoiSat
      split <;> omega
    obtain ⟨v, hvv⟩ : ∃ v, v = Lib.atoiSat s.data.toList := ⟨_, rfl⟩
    rw [← hvv] at hsat HA
    clear ha hv hvv
    go_enter Tryz.func14, Tryz.ntmps14
    go_wp2_with fail
    refine HA.out.mono ?_
    rintro e w1 ⟨N, rfl, _, _, hw⟩
    have B1 := Lib.hid hw
    clear hw
    go_wp2_with fail
    go_ret2
    exact ⟨v, false, by simp, (fun h => by cases h), fun u h0 h1 e => absurd e (HB.out u h0 h1), hsat.1, hsat.2, B1.out⟩
  | _ =>
    have HB : Hid (∀ u : Int, -9223372036854775808 ≤ u → u ≤ 9223372036854775807 → s.data.toList ≠ Lib.itoa u) := by
      intro u h0 h1 e
      have := atoi_itoa u h0 h1
      rw [← e, ha] at this
      cases this
    obtain ⟨tp, p, hv⟩ := H.out.syn
    have HA := Lib.hid (Tryz.strconv_Atoi_syntax_var s (by omega) ⟨fun v e => (by rw [ha] at e; cases e), fun e => (by rw [ha] at e; cases e)⟩ tp p w hv)
    clear ha hv
    go_enter Tryz.func14, Tryz.ntmps14
    go_wp2_with fail
    refine HA.out.mono ?_
    rintro e w1 ⟨N, rfl, _, _, hw⟩
    have B1 := Lib.hid hw
    clear hw
    go_wp2_with fail
    go_ret2
    exact ⟨0, false, by simp, (fun h => by cases h), fun u h0 h1 e => absurd e (HB.out u h0 h1), by omega, by omega, B1.out⟩

set_option maxRecDepth 100000 in
set_option maxHeartbeats 1000000 in
theorem l2Num_any (s : ByteArray) (w : World) (hs : s.size ≤ 1048576) : Calls Tryz.prog 17 #[.string s] w fun e w' => (∃ v : Int, e = .returned (.int .i64 v) ∧ NumV s.data.toList v) ∧ w = w' := by
  have hlen : s.data.toList.length = s.size := by simp
  by_cases h1 : s.size < 1 ∨ 12 < s.size
  · have HN := Lib.hid (num_short (s := s.data.toList) (by rw [hlen]; exact h1))
    have hin : inB (s.size : Int) 1 12 = false := by simp [inB]; omega
    go_enter Tryz.func17, Tryz.ntmps17
    go_wp2_with (go_at_call 31; ((with_reducible refine (l1In_any _ _ _ _).mono ?_); rintro e w' ⟨rfl, rfl⟩))
    go_ret
    exact ⟨⟨_, rfl, HN.out⟩, rfl⟩
  · have hin : inB (s.size : Int) 1 12 = true := by simp [inB]; omega
    have s1 : 1 ≤ s.size := by omega
    have s2 : s.size ≤ 12 := by omega
    have s0 : 0 < s.size := by omega
    clear h1
    have HE : Hid ((∀ x ∈ s.data.toList, isDig x) → (∀ c, 1 < s.data.toList.length → s.data.toList[0]? = some c → c.toNat ≠ 48) → NumV s.data.toList (valD s.data.toList)) := fun hd hz => num_good (by omega) (by omega) hz hd
    have hget : ∀ k (hk : k < s.size), s.data.toList[k]? = some s[k] := by
      intro k hk
      rw [List.getElem?_eq_getElem (by simpa using hk)]
      rfl
    have HG := Lib.hid hget
    clear hget
    have HZ : Hid (1 < s.size → (s[0]).toNat = 48 → NumV s.data.toList (-1)) := fun h h0 => num_zero (by omega) (HG.out 0 s0) h0
    have HZ2 : Hid ((1 < s.size → (s[0]).toNat ≠ 48) → ∀ c, 1 < s.data.toList.length → s.data.toList[0]? = some c → c.toNat ≠ 48) := by
      intro h c hl hc
      rw [HG.out 0 s0] at hc
      injection hc with hc
      subst hc
      exact h (by omega)
    have HBad : Hid (∀ k (hk : k < s.size), ¬ isDig s[k] → NumV s.data.toList (-1)) := fun k hk hb => num_bad (HG.out k hk) hb
    have HTake : Hid (∀ k (hk : k < s.size), s.data.toList.take (k + 1) = s.data.toList.take k ++ [s[k]]) := fun k hk => take_snoc s k hk
    have HFull : Hid (s.data.toList.take s.size = s.data.toList) := List.take_of_length_le (by omega)
    by_cases h48 : (1 < s.size ∧ (s[0]).toNat = 48)
    · have HN := Lib.hid (HZ.out h48.1 h48.2)
      have x1 := h48.1
      have x2 : ((s[0]).toNat : Int) = 48 := by omega
      clear h48
      go_enter Tryz.func17, Tryz.ntmps17
      go_wp2_with (go_at_call 31; ((with_reducible refine (l1In_any _ _ _ _).mono ?_); rintro e w' ⟨rfl, rfl⟩))
      go_ret
      exact ⟨⟨_, rfl, HN.out⟩, rfl⟩
    · have HNZ := Lib.hid (HZ2.out (fun h1 h2 => h48 ⟨h1, h2⟩))
      have loop : s.size ≤ 1 ∨ (1 < s.size ∧ ((s[0]).toNat : Int) ≠ 48) := by omega
      clear h48
      rcases loop with x1 | ⟨x1, x2⟩
      all_goals
        go_enter Tryz.func17, Tryz.ntmps17
        go_wp2_with (go_at_call 31; ((with_reducible refine (l1In_any _ _ _ _).mono ?_); rintro e w' ⟨rfl, rfl⟩))
        go_loop [3, 4] (fun n i => ∃ k : Nat, k ≤ s.size ∧ i = .int .i64 k ∧ ∃ u : Nat, n = .int .i64 u ∧ u = valD (s.data.toList.take k) ∧ u < 10 ^ k ∧ (∀ x ∈ s.data.toList.take k, isDig x)) (fun _ i => s.size - (intOf i).toNat)
        case atStart => exact ⟨0, Nat.zero_le _, rfl, 0, rfl, by simp [valD], by simp, by simp⟩
        case round =>
          obtain ⟨k, hk, rfl, u, rfl, hu, hlt10, hall⟩ := hrel
          have HU := Lib.hid hu
          have HAL := Lib.hid hall
          have u1 : u < 1000000000000 := by
            have : 10 ^ k ≤ 10 ^ 12 := Nat.pow_le_pow_right (by omega) (by omega)
            omega
          have HP := Lib.hid hlt10
          clear hu hall hlt10
          by_cases hlt : k < s.size
          · have HB1 := Lib.hid (HBad.out k hlt)
            have HT1 := Lib.hid (HTake.out k hlt)
            by_cases hd : 48 ≤ (s[k]).toNat ∧ (s[k]).toNat ≤ 57
            · have HD : Hid (isDig s[k]) := hd
              have d1 : (48 : Int) ≤ ((s[k]).toNat : Int) := by omega
              have d2 : ((s[k]).toNat : Int) ≤ 57 := by omega
              have wr1 : IntKind.u8.wrap (((s[k]).toNat : Int) - 48) = ((s[k]).toNat : Int) - 48 := by unfold IntKind.wrap; simp [IntKind.bits]; omega
              clear hd
              go_wp2_with fail
              go_round
              case rel =>
                first
                  | refine ⟨k + 1, by omega, by go_num, u * 10 + ((s[k]).toNat - 48), by go_num, ?_, ?_, ?_⟩
                  | refine ⟨_, _, _, ⟨k + 1, by omega, rfl, u * 10 + ((s[k]).toNat - 48), rfl, ?_, ?_, ?_⟩, rfl, by go_num, by go_num⟩
                · rw [HT1.out, valD_snoc, ← HU.out]
                · have := HP.out
                  rw [Nat.pow_succ]
                  omega
                · rw [HT1.out]
                  intro x hx
                  rw [List.mem_append, List.mem_singleton] at hx
                  rcases hx with hx | rfl
                  · exact HAL.out x hx
                  · exact HD.out
              case measure => simp [intOf]; omega
            · have HN := Lib.hid (HB1.out hd)
              have d1 : ((s[k]).toNat : Int) < 48 ∨ 57 < ((s[k]).toNat : Int) := by omega
              clear hd
              rcases d1 with d1 | d1
              all_goals
                go_wp2_with fail
                go_ret
                exact ⟨⟨_, rfl, HN.out⟩, rfl⟩
          · have e : k = s.size := by omega
            have HN : Hid (NumV s.data.toList (u : Int)) := by
              have h1 := HU.out
              have h2 := HAL.out
              rw [e, HFull.out] at h1 h2
              rw [h1]
              exact HE.out h2 HNZ.out
            go_wp2_with fail
            go_ret
            exact ⟨⟨_, rfl, HN.out⟩, rfl⟩

end My
end Go.Proofs.YtjmlekhgnbbjoaaGreatDoor

/- Words that are read again: plain facts. -/
namespace Go.Proofs.YtjmlekhgnbbjoaaGreatDoor
open Go.RowKit Go.Deep
set_option linter.unusedVariables false
namespace My

theorem putL_tail (F : Nat → ByteArray) (k : Nat) : ∀ m, putL F (k + m) = putL F k ++ putL (fun i => F (k + i)) m
  | 0 => by simp [putL]
  | m + 1 => by
    rw [← Nat.add_assoc]
    simp only [putL]
    rw [putL_tail F k m, List.append_assoc]
theorem putL_cons (F : Nat → ByteArray) (m : Nat) : putL F (m + 1) = word1 (F 0) ++ putL (fun i => F (i + 1)) m := by
  have := putL_tail F 1 m
  rw [Nat.add_comm 1 m] at this
  rw [this]
  simp only [putL, List.nil_append]
  congr 1
  congr 1
  funext i
  rw [Nat.add_comm]
theorem digit_ne {u : Nat} {c : UInt8} (h : c ∈ Lib.decDigits u) : c ≠ 58 := by
  have := dec_all u c h
  unfold isDig at this
  rintro rfl
  have e : (58 : UInt8).toNat = 58 := rfl
  omega
theorem cut_first : ∀ (a b r r' : List UInt8), (∀ c ∈ a, c ≠ 58) → (∀ c ∈ b, c ≠ 58) → a ++ 58 :: r = b ++ 58 :: r' → a = b ∧ r = r'
  | [], [], r, r', _, _, h => by simpa using h
  | [], y :: b, r, r', _, hb, h => by
    simp only [List.nil_append, List.cons_append, List.cons.injEq] at h
    exact absurd h.1.symm (hb y (by simp))
  | x :: a, [], r, r', ha, _, h => by
    simp only [List.nil_append, List.cons_append, List.cons.injEq] at h
    exact absurd h.1 (ha x (by simp))
  | x :: a, y :: b, r, r', ha, hb, h => by
    simp only [List.cons_append, List.cons.injEq] at h
    obtain ⟨e1, e2⟩ := cut_first a b r r' (fun c hc => ha c (by simp [hc])) (fun c hc => hb c (by simp [hc])) h.2
    exact ⟨by rw [h.1, e1], e2⟩
theorem word_shape (g : ByteArray) (r : List UInt8) : word1 g ++ r = Lib.decDigits g.size ++ 58 :: (g.data.toList ++ 44 :: r) := by simp [word1]
theorem byte_eq {a b : ByteArray} (h : a.data.toList = b.data.toList) : a = b := by rw [← data_txt a, h, data_txt]
theorem word_cut {g g' : ByteArray} {r r' : List UInt8} (h : word1 g ++ r = word1 g' ++ r') : g = g' ∧ r = r' := by
  rw [word_shape, word_shape] at h
  obtain ⟨e1, e2⟩ := cut_first _ _ _ _ (fun c hc => digit_ne hc) (fun c hc => digit_ne hc) h
  have e3 := dec_inj e1
  have h1 := List.append_inj e2 (by simpa using e3)
  exact ⟨byte_eq h1.1, by simpa using h1.2⟩
theorem word_ne (g : ByteArray) (r : List UInt8) : word1 g ++ r ≠ [] := by rw [word_shape]; simp
theorem putL_prefix : ∀ (k : Nat) (F G : Nat → ByteArray) (m : Nat) (r : List UInt8), putL F k ++ r = putL G m → k ≤ m ∧ (∀ i, i < k → F i = G i) ∧ r = putL (fun i => G (k + i)) (m - k)
  | 0, F, G, m, r, h => by
    refine ⟨Nat.zero_le _, fun i hi => by omega, ?_⟩
    simpa [putL] using h
  | k + 1, F, G, m, r, h => by
    rw [putL_cons, List.append_assoc] at h
    cases m with
    | zero => exact absurd h (word_ne _ _)
    | succ m =>
      rw [putL_cons] at h
      obtain ⟨e1, e2⟩ := word_cut h
      obtain ⟨h1, h2, h3⟩ := putL_prefix k _ _ m r e2
      refine ⟨by omega, fun i hi => ?_, ?_⟩
      · cases i with
        | zero => exact e1
        | succ i => exact h2 i (by omega)
      · rw [h3]
        rw [show m + 1 - (k + 1) = m - k from by omega]
        congr 1
        funext i
        congr 1
        omega
theorem putL_inj {F G : Nat → ByteArray} {k m : Nat} (h : putL F k = putL G m) : k = m ∧ ∀ i, i < k → F i = G i := by
  obtain ⟨h1, h2, h3⟩ := putL_prefix k F G m [] (by simpa using h)
  refine ⟨?_, h2⟩
  rcases Nat.lt_or_ge k m with hk | hk
  · have : m - k = (m - k - 1) + 1 := by omega
    rw [this, putL_cons] at h3
    exact absurd h3.symm (word_ne _ _)
  · omega

def IsW (T : List UInt8) (F : Nat → ByteArray) (n : Nat) : Prop := T = putL F n ∧ n ≤ 40 ∧ T.length ≤ 6000
theorem IsW.inj {T : List UInt8} {F G : Nat → ByteArray} {k m : Nat} (h : IsW T F k) (h' : IsW T G m) : k = m ∧ ∀ i, i < k → F i = G i := putL_inj (h.1.symm.trans h'.1)

theorem idx_colon : ∀ (a b : List UInt8), (∀ c ∈ a, c ≠ 58) → Lib.index (a ++ 58 :: b) [58] = a.length
  | [], b, _ => by simp [Lib.index]
  | x :: a, b, h => by
    have hx : x ≠ 58 := h x (by simp)
    have ih := idx_colon a b (fun c hc => h c (by simp [hc]))
    simp only [List.cons_append, Lib.index]
    have : ([58] : List UInt8).isPrefixOf (x :: (a ++ 58 :: b)) = false := by
      simp [List.isPrefixOf, Ne.symm hx]
    rw [this, ih]
    simp
theorem cut_colon (a b : List UInt8) (h : ∀ c ∈ a, c ≠ 58) : Lib.cut (a ++ 58 :: b) [58] = (a, b, true) := by
  unfold Lib.cut
  rw [idx_colon a b h, if_pos (by omega)]
  simp
theorem cut_found {R A B : List UInt8} (h : Lib.cut R [58] = (A, B, true)) : R = A ++ 58 :: B := by
  unfold Lib.cut at h
  split at h
  · rename_i hi
    rcases Lib.index_spec R [58] with ⟨e, _⟩ | ⟨i, e, hl, ho, _⟩
    · omega
    · rw [e] at h
      simp only [Int.toNat_natCast, List.length_singleton, Prod.mk.injEq, and_true] at h
      obtain ⟨rfl, rfl⟩ := h
      unfold Lib.occAt at ho
      have hd : R.drop i = 58 :: R.drop (i + 1) := by
        cases hx : R.drop i with
        | nil => rw [hx] at ho; simp [List.isPrefixOf] at ho
        | cons x l =>
          rw [hx] at ho
          simp [List.isPrefixOf] at ho
          subst ho
          congr 1
          rw [← List.tail_drop, hx]
          rfl
      rw [← hd, List.take_append_drop]
  · simp at h

/-- What holds of the words that were read, and of what is left. -/
structure Inv (T : List UInt8) (k : Nat) (F : Nat → ByteArray) (R : List UInt8) : Prop where
  sz : k + sumZ F k + R.length ≤ T.length
  all : ∀ G m, T = putL G m → k ≤ m ∧ (∀ i, i < k → F i = G i) ∧ R = putL (fun i => G (k + i)) (m - k)
theorem Inv.start (T : List UInt8) (F : Nat → ByteArray) : Inv T 0 F T := by
  refine ⟨by simp [sumZ], fun G m h => ⟨Nat.zero_le _, fun i hi => by omega, ?_⟩⟩
  simpa using h
theorem Inv.head {T R : List UInt8} {k m : Nat} {F G : Nat → ByteArray} (h : Inv T k F R) (hR : R ≠ []) (hT : T = putL G m) :
    k < m ∧ R = word1 (G k) ++ putL (fun i => G (k + 1 + i)) (m - (k + 1)) := by
  obtain ⟨h1, h2, h3⟩ := h.all G m hT
  have hlt : k < m := by
    rcases Nat.lt_or_ge k m with hk | hk
    · exact hk
    · rw [show m - k = 0 from by omega] at h3
      exact absurd h3 hR
  refine ⟨hlt, ?_⟩
  rw [h3, show m - k = (m - (k + 1)) + 1 from by omega, putL_cons]
  congr 2
  funext i
  congr 1
  omega
theorem word_len {R : List UInt8} {g : ByteArray} {r : List UInt8} (h : R = word1 g ++ r) : g.size + 2 ≤ R.length := by
  rw [h, word_shape]
  have := dec_ne g.size
  have : 1 ≤ (Lib.decDigits g.size).length := by
    cases hh : Lib.decDigits g.size with
    | nil => exact absurd hh this
    | cons a b => simp
  have e : g.data.toList.length = g.size := by simp
  simp only [List.length_append, List.length_cons]
  omega
theorem Inv.told {T R A B : List UInt8} {k m : Nat} {F G : Nat → ByteArray} {f b : Bool} {v : Int} (h : Inv T k F R) (hR : R ≠ []) (hT : T = putL G m) (hl : T.length ≤ 1048576) (hc : Lib.cut R [58] = (A, B, f))
    (hn : ∀ u : Int, -9223372036854775808 ≤ u → u ≤ 9223372036854775807 → A = Lib.itoa u → v = u ∧ b = true) :
    f = true ∧ b = true ∧ v = ((G k).size : Int) ∧ B = (G k).data.toList ++ 44 :: putL (fun i => G (k + 1 + i)) (m - (k + 1)) := by
  obtain ⟨h1, h2⟩ := h.head hR hT
  have hlen := word_len h2
  have hs := h.sz
  rw [h2, word_shape, cut_colon _ _ (fun c hc => digit_ne hc)] at hc
  simp only [Prod.mk.injEq] at hc
  obtain ⟨rfl, rfl, rfl⟩ := hc
  obtain ⟨e1, e2⟩ := hn ((G k).size : Int) (by omega) (by omega) (by rw [Lib.itoa_nonneg])
  exact ⟨rfl, e2, e1, rfl⟩
theorem Inv.no {T R A B : List UInt8} {k : Nat} {F : Nat → ByteArray} {f b : Bool} {v : Int} (h : Inv T k F R) (hR : R ≠ []) (hl : T.length ≤ 1048576) (hc : Lib.cut R [58] = (A, B, f))
    (hn : ∀ u : Int, -9223372036854775808 ≤ u → u ≤ 9223372036854775807 → A = Lib.itoa u → v = u ∧ b = true) (hbad : f = false ∨ b = false ∨ v < 0 ∨ (B.length : Int) ≤ v) : ∀ G m, ¬ IsW T G m := by
  rintro G m ⟨hT, _, _⟩
  obtain ⟨e1, e2, e3, e4⟩ := h.told hR hT hl hc hn
  rcases hbad with hb | hb | hb | hb
  · rw [e1] at hb; cases hb
  · rw [e2] at hb; cases hb
  · omega
  · have e : (G k).data.toList.length = (G k).size := by simp
    rw [e4] at hb
    simp only [List.length_append, List.length_cons] at hb
    omega
def putF (F : Nat → ByteArray) (k : Nat) (s : ByteArray) (i : Nat) : ByteArray := if i = k then s else F i
theorem strsOf_put (F : Nat → ByteArray) (k : Nat) (s : ByteArray) : strsOf (putF F k s) (k + 1) = strsOf F k ++ [.string s] := by
  unfold strsOf
  rw [List.range_succ, List.map_append]
  congr 1
  · apply List.map_congr_left
    intro i hi
    have : ¬ i = k := by have := List.mem_range.1 hi; omega
    simp [putF, this]
  · simp [putF]
theorem sumZ_put (F : Nat → ByteArray) (k : Nat) (s : ByteArray) : sumZ (putF F k s) (k + 1) = sumZ F k + s.size := by
  simp only [sumZ]
  have e : sumZ (putF F k s) k = sumZ F k := by
    refine sumZ_congr k fun i hi => ?_
    have : ¬ i = k := by omega
    simp [putF, this]
  rw [e]
  simp [putF]
theorem Inv.step {T R A B : List UInt8} {k : Nat} {F : Nat → ByteArray} {b : Bool} {v : Nat} (h : Inv T k F R) (hR : R ≠ []) (hl : T.length ≤ 1048576) (hc : Lib.cut R [58] = (A, B, true))
    (hn : ∀ u : Int, -9223372036854775808 ≤ u → u ≤ 9223372036854775807 → A = Lib.itoa u → (v : Int) = u ∧ b = true) (hv : v < B.length) : Inv T (k + 1) (putF F k (txt (B.take v))) (B.drop (v + 1)) ∧ (B.drop (v + 1)).length < R.length := by
  have hf := cut_found hc
  have hlen : R.length = A.length + B.length + 1 := by rw [hf]; simp; omega
  refine ⟨⟨?_, ?_⟩, by rw [List.length_drop]; omega⟩
  · rw [sumZ_put, txt_size, List.length_take, List.length_drop]
    have := h.sz
    omega
  · intro G m hT
    obtain ⟨e1, e2, e3, e4⟩ := h.told hR hT hl hc hn
    obtain ⟨h1, _⟩ := h.head hR hT
    have e5 : v = (G k).data.toList.length := by
      have : (G k).data.toList.length = (G k).size := by simp
      omega
    refine ⟨h1, fun i hi => ?_, ?_⟩
    · by_cases hik : i = k
      · subst hik
        simp only [putF, if_true]
        rw [e4, e5, List.take_left', data_txt]
        rfl
      · simp only [putF, if_neg hik]
        exact (h.all G m hT).2.1 i (by omega)
    · rw [e4, e5]
      simp [List.drop_append]
theorem Inv.last_no {T : List UInt8} {k : Nat} {F : Nat → ByteArray} (h : Inv T k F []) (hne : wpT F k ≠ T) : ∀ G m, ¬ IsW T G m := by
  rintro G m ⟨hT, hm, hl⟩
  obtain ⟨h1, h2, h3⟩ := h.all G m hT
  have hkm : k = m := by
    rcases Nat.lt_or_ge k m with hk | hk
    · rw [show m - k = (m - k - 1) + 1 from by omega, putL_cons] at h3
      exact absurd h3.symm (word_ne _ _)
    · omega
  subst hkm
  have e : putL F k = T := by rw [hT]; exact putL_congr k h2
  apply hne
  unfold wpT
  rw [e, if_pos ⟨hm, hl⟩]
theorem Inv.last {T : List UInt8} {k : Nat} {F : Nat → ByteArray} (h : Inv T k F []) (he : wpT F k = T) : IsW T F k := by
  unfold wpT at he
  split at he
  · rename_i hc
    exact ⟨he.symm, hc.1, by rw [← he]; exact hc.2⟩
  · have := h.sz
    subst he
    simp at this
    obtain ⟨rfl, _⟩ := this
    exact ⟨rfl, by omega, by simp⟩
end My
end Go.Proofs.YtjmlekhgnbbjoaaGreatDoor

/- Texts that are cut, trips that are read: plain facts. -/
namespace Go.Proofs.YtjmlekhgnbbjoaaGreatDoor
open Go.RowKit Go.Deep
set_option linter.unusedVariables false
namespace My

def cutL (c : UInt8) : List UInt8 → List (List UInt8)
  | [] => [[]]
  | x :: l => if x = c then [] :: cutL c l else (match cutL c l with | [] => [[x]] | p :: r => (x :: p) :: r)
theorem cutL_ne (c : UInt8) : ∀ l, cutL c l ≠ []
  | [] => by simp [cutL]
  | x :: l => by
    simp only [cutL]
    split
    · simp
    · split <;> simp
theorem cutL_app (c : UInt8) : ∀ (a b : List UInt8), (∀ x ∈ a, x ≠ c) → cutL c (a ++ c :: b) = a :: cutL c b
  | [], b, _ => by simp [cutL]
  | x :: a, b, h => by
    have hx : ¬ x = c := h x (by simp)
    have ih := cutL_app c a b (fun y hy => h y (by simp [hy]))
    simp only [List.cons_append, cutL, if_neg hx, ih]
theorem cutL_none (c : UInt8) : ∀ (a : List UInt8), (∀ x ∈ a, x ≠ c) → cutL c a = [a]
  | [], _ => rfl
  | x :: a, h => by
    have hx : ¬ x = c := h x (by simp)
    have ih := cutL_none c a (fun y hy => h y (by simp [hy]))
    simp only [cutL, if_neg hx, ih]
theorem cutL_bd (c : UInt8) : ∀ (l : List UInt8), ∀ p ∈ cutL c l, p.length + (cutL c l).length ≤ l.length + 1
  | [], p, hp => by
    simp [cutL] at hp ⊢
    subst hp
    simp
  | x :: l, p, hp => by
    have ih := cutL_bd c l
    simp only [cutL] at hp ⊢
    split at hp
    · rename_i hx
      rw [if_pos hx]
      rcases List.mem_cons.1 hp with rfl | hp
      · cases hl : cutL c l with
        | nil => exact absurd hl (cutL_ne c l)
        | cons q r =>
          have := ih q (by rw [hl]; simp)
          rw [hl] at this
          simp only [List.length_cons, List.length_nil] at *
          omega
      · have := ih p hp
        simp only [List.length_cons] at *
        omega
    · rename_i hx
      rw [if_neg hx]
      cases hl : cutL c l with
      | nil => exact absurd hl (cutL_ne c l)
      | cons q r =>
        rw [hl] at hp ih
        simp only at hp ⊢
        rcases List.mem_cons.1 hp with rfl | hp
        · have := ih q (by simp)
          simp only [List.length_cons] at *
          omega
        · have := ih p (by simp [hp])
          simp only [List.length_cons] at *
          omega
theorem idx_none (c : UInt8) : ∀ (s : List UInt8), Lib.index s [c] = -1 → ∀ x ∈ s, x ≠ c
  | [], _, x, hx => by cases hx
  | y :: l, h, x, hx => by
    simp only [Lib.index] at h
    by_cases hy : y = c
    · subst hy
      simp [List.isPrefixOf] at h
    · have hp : ([c] : List UInt8).isPrefixOf (y :: l) = false := by simp [List.isPrefixOf, Ne.symm hy]
      rw [hp] at h
      have hge := Lib.index_ge l [c]
      have hm : Lib.index l [c] = -1 := by
        by_cases e : Lib.index l [c] = -1
        · exact e
        · simp [e] at h
          omega
      rcases List.mem_cons.1 hx with rfl | hx
      · exact hy
      · exact idx_none c l hm x hx
theorem idx_some (c : UInt8) : ∀ (s : List UInt8) (i : Nat), Lib.index s [c] = i → s = s.take i ++ c :: s.drop (i + 1) ∧ ∀ x ∈ s.take i, x ≠ c
  | [], i, h => by simp [Lib.index] at h
  | y :: l, i, h => by
    simp only [Lib.index] at h
    by_cases hy : y = c
    · subst hy
      simp [List.isPrefixOf] at h
      have : i = 0 := by omega
      subst this
      simp
    · have hp : ([c] : List UInt8).isPrefixOf (y :: l) = false := by simp [List.isPrefixOf, Ne.symm hy]
      rw [hp] at h
      have hge := Lib.index_ge l [c]
      by_cases e : Lib.index l [c] = -1
      · rw [e] at h
        simp at h
        try omega
      · simp [e] at h
        obtain ⟨j, rfl⟩ : ∃ j, i = j + 1 := ⟨i - 1, by omega⟩
        obtain ⟨h1, h2⟩ := idx_some c l j (by omega)
        refine ⟨?_, ?_⟩
        · simp only [List.take_succ_cons, List.drop_succ_cons, List.cons_append]
          rw [← h1]
        · intro x hx
          simp only [List.take_succ_cons] at hx
          rcases List.mem_cons.1 hx with rfl | hx
          · exact hy
          · exact h2 x hx
theorem splitB_cut (c : UInt8) : ∀ (k : Nat) (s : ByteArray), s.size ≤ k → (Lib.splitB (txt [c]) 0 (Lib.countB s (txt [c])) s).map (·.data.toList) = cutL c s.data.toList := by
  intro k
  induction k with
  | zero =>
    intro s hs
    have h1 : s.data.toList.length = s.size := by simp
    have e : s.data.toList = [] := List.eq_nil_of_length_eq_zero (by omega)
    have hi : Lib.indexB s (txt [c]) = -1 := by
      unfold Lib.indexB
      rw [txt_data, e]
      rfl
    rw [Lib.splitB_miss _ _ _ _ hi, e]
    simp [cutL, e]
  | succ k ih =>
    intro s hs
    have hone : (txt [c]).size = 1 := one_size c
    rcases Lib.indexB_cases s (txt [c]) with hi | ⟨i, hi, hroom⟩
    · rw [Lib.splitB_miss _ _ _ _ hi]
      unfold Lib.indexB at hi
      rw [txt_data] at hi
      rw [cutL_none c _ (idx_none c _ hi)]
      rfl
    · rw [Lib.countB_hit s (txt [c]) i (by omega) hi, Nat.add_comm 1, Lib.splitB_hit _ _ _ _ _ hi]
      unfold Lib.indexB at hi
      rw [txt_data] at hi
      obtain ⟨h1, h2⟩ := idx_some c _ i hi
      have hx : (s.extract (i + (txt [c]).size) s.size).data.toList = s.data.toList.drop (i + 1) := by
        rw [Lib.extract_data, hone, List.take_of_length_le (by simp)]
      have hp : (s.extract 0 (i + 0)).data.toList = s.data.toList.take i := by
        rw [Lib.extract_data]
        simp
      rw [List.map_cons, ih _ (by simp; omega), hx, hp]
      conv => rhs; rw [h1]
      rw [cutL_app c _ _ h2]

/-- T is a trip's text. -/
def IsT (T : List UInt8) (G : Nat → ByteArray) (m : Nat) (f : ByteArray) (s : Int) : Prop := tripB G m f s = true ∧ tripL G m f s = T
theorem nmS_let {x : ByteArray} (h : nmS x = true) : ∀ c ∈ x.data.toList, c ≠ 45 ∧ c ≠ 47 := by
  intro c hc
  unfold nmS nameB at h
  simp only [Bool.and_eq_true, List.all_eq_true] at h
  have := h.1 c hc
  unfold letB at this
  simp at this
  refine ⟨?_, ?_⟩ <;> rintro rfl <;> revert this <;> decide
theorem itoa_let {s : Int} (h0 : 1 ≤ s) (h1 : s ≤ 4) : ∀ c ∈ Lib.itoa s, c ≠ 47 := by
  intro c hc
  have e2 : Lib.itoa s = Lib.decDigits s.toNat := by unfold Lib.itoa; rw [if_neg (by omega)]
  rw [e2] at hc
  have := dec_all _ c hc
  unfold isDig at this
  rintro rfl
  have e : (47 : UInt8).toNat = 47 := rfl
  omega
theorem joinK_cut {G : Nat → ByteArray} {m : Nat} (h : 1 ≤ m ∧ m ≤ 3) (hn : ∀ k, k < m → nmS (G k) = true) :
    cutL 45 (joinK G m) = (List.range m).map (fun i => (G i).data.toList) ∧ ∀ c ∈ joinK G m, c ≠ 47 := by
  have : m = 1 ∨ m = 2 ∨ m = 3 := by omega
  rcases this with rfl | rfl | rfl
  · have n0 := nmS_let (hn 0 (by omega))
    simp only [joinK, if_true, List.nil_append]
    refine ⟨?_, fun c hc => (n0 c hc).2⟩
    rw [cutL_none 45 _ (fun c hc => (n0 c hc).1)]
    simp [List.range_succ]
  · have n0 := nmS_let (hn 0 (by omega))
    have n1 := nmS_let (hn 1 (by omega))
    simp only [joinK, if_true, List.nil_append, if_neg (show ¬ 0 + 1 = 0 by omega), List.append_assoc, List.cons_append]
    refine ⟨?_, ?_⟩
    · rw [cutL_app 45 _ _ (fun c hc => (n0 c hc).1), cutL_none 45 _ (fun c hc => (n1 c hc).1)]
      simp [List.range_succ]
    · intro c hc
      simp only [List.mem_append, List.mem_cons] at hc
      rcases hc with hc | rfl | hc
      · exact (n0 c hc).2
      · decide
      · exact (n1 c hc).2
  · have n0 := nmS_let (hn 0 (by omega))
    have n1 := nmS_let (hn 1 (by omega))
    have n2 := nmS_let (hn 2 (by omega))
    simp only [joinK, if_true, List.nil_append, if_neg (show ¬ 0 + 1 = 0 by omega), if_neg (show ¬ 0 + 1 + 1 = 0 by omega), List.append_assoc, List.cons_append]
    refine ⟨?_, ?_⟩
    · rw [cutL_app 45 _ _ (fun c hc => (n0 c hc).1), cutL_app 45 _ _ (fun c hc => (n1 c hc).1), cutL_none 45 _ (fun c hc => (n2 c hc).1)]
      simp [List.range_succ]
    · intro c hc
      simp only [List.mem_append, List.mem_cons] at hc
      rcases hc with hc | rfl | hc | rfl | hc
      · exact (n0 c hc).2
      · decide
      · exact (n1 c hc).2
      · decide
      · exact (n2 c hc).2
theorem trip_told {T : List UInt8} {G : Nat → ByteArray} {m : Nat} {f : ByteArray} {s : Int} (h : IsT T G m f s) :
    cutL 47 T = [joinK G m, f.data.toList, Lib.itoa s] ∧ cutL 45 (joinK G m) = (List.range m).map (fun i => (G i).data.toList) ∧ 1 ≤ s ∧ s ≤ 4 := by
  obtain ⟨hb, rfl⟩ := h
  obtain ⟨h1, _, h3, h4, h5⟩ := trip_parts hb
  obtain ⟨k1, k2⟩ := joinK_cut h3 h1
  refine ⟨?_, k1, h5.1, h5.2⟩
  unfold tripL
  simp only [List.append_assoc, List.cons_append, List.nil_append]
  rw [cutL_app 47 _ _ k2, cutL_app 47 _ _ (fun c hc => (nmS_let h4 c hc).2), cutL_none 47 _ (itoa_let h5.1 h5.2)]
theorem itoa_inj4 {s t : Int} (h0 : 1 ≤ s) (h1 : s ≤ 4) (g0 : 1 ≤ t) (g1 : t ≤ 4) (h : Lib.itoa s = Lib.itoa t) : s = t := by
  have e1 := atoi_itoa s (by omega) (by omega)
  have e2 := atoi_itoa t (by omega) (by omega)
  rw [h, e2] at e1
  injection e1 with e1
  exact e1.symm
theorem IsT.inj {T : List UInt8} {G G' : Nat → ByteArray} {m m' : Nat} {f f' : ByteArray} {s s' : Int} (h : IsT T G m f s) (h' : IsT T G' m' f' s') : m = m' ∧ (∀ i, i < m → G i = G' i) ∧ f = f' ∧ s = s' := by
  obtain ⟨a1, a2, a3, a4⟩ := trip_told h
  obtain ⟨b1, b2, b3, b4⟩ := trip_told h'
  rw [a1] at b1
  simp only [List.cons.injEq, and_true] at b1
  obtain ⟨e1, e2, e3⟩ := b1
  rw [← e1, a2] at b2
  have hm : m = m' := by simpa using congrArg List.length b2
  subst hm
  refine ⟨rfl, fun i hi => ?_, byte_eq e2, itoa_inj4 a3 a4 b3 b4 e3⟩
  have := congrArg (·[i]?) b2
  simp [hi] at this
  exact byte_eq (by simp [this])
theorem tripT_is {T : List UInt8} {G : Nat → ByteArray} {m : Nat} {f : ByteArray} {s : Int} (hT : T ≠ []) : tripT G m f s = T ↔ IsT T G m f s := by
  unfold tripT IsT
  constructor
  · intro h
    split at h
    · rename_i hc
      exact ⟨hc, h⟩
    · exact absurd h.symm hT
  · rintro ⟨h1, h2⟩
    rw [if_pos h1, h2]
theorem cut_n {c : UInt8} {T : List UInt8} {n : Nat} {F : Nat → ByteArray} (h : cutL c T = (List.range n).map (fun i => (F i).data.toList)) (hT : T.length ≤ 1048575) : 1 ≤ n ∧ n ≤ 1048576 ∧ ∀ i, i < n → (F i).size ≤ T.length := by
  have hl : (cutL c T).length = n := by rw [h]; simp
  have hp : ∀ i, i < n → (F i).size + n ≤ T.length + 1 := by
    intro i hi
    have := cutL_bd c T ((F i).data.toList) (by rw [h]; exact List.mem_map.2 ⟨i, by simp [hi], rfl⟩)
    rw [hl] at this
    have e : (F i).data.toList.length = (F i).size := by simp
    omega
  have h1 : 1 ≤ n := by
    rcases Nat.eq_zero_or_pos n with h0 | h0
    · rw [h0] at hl
      exact absurd (List.eq_nil_of_length_eq_zero hl) (cutL_ne c T)
    · exact h0
  have := hp 0 (by omega)
  exact ⟨h1, by omega, fun i hi => by have := hp i hi; omega⟩
theorem joinK_congr {F G : Nat → ByteArray} : ∀ n, (∀ i, i < n → F i = G i) → joinK F n = joinK G n
  | 0, _ => rfl
  | n + 1, h => by
    simp only [joinK]
    rw [joinK_congr n (fun i hi => h i (by omega)), h n (by omega)]
theorem legsB_congr {F G : Nat → ByteArray} {n : Nat} (h : ∀ i, i < n → F i = G i) (hl : legsB F n = true) : legsB G n = true := by
  apply legsB_yes
  intro k hk
  have hk1 : legB F k = true := by
    have : ∀ k, k < n → legB F k = true := by simpa [legsB] using hl
    exact this k hk
  unfold legB at hk1 ⊢
  simp only [Bool.and_eq_true, decide_eq_true_eq] at hk1 ⊢
  refine ⟨by rw [← h k hk]; exact hk1.1, fun j hj => ?_⟩
  rw [← h j (by omega), ← h k hk]
  exact hk1.2 j hj
theorem IsT.congr {T : List UInt8} {F G : Nat → ByteArray} {m : Nat} {f : ByteArray} {s : Int} (h : IsT T G m f s) (e : ∀ i, i < m → G i = F i) : IsT T F m f s := by
  obtain ⟨h1, h2⟩ := h
  refine ⟨?_, ?_⟩
  · unfold tripB at h1 ⊢
    simp only [Bool.and_eq_true] at h1 ⊢
    exact ⟨⟨⟨legsB_congr e h1.1.1.1, h1.1.1.2⟩, h1.1.2⟩, h1.2⟩
  · rw [← h2]
    unfold tripL
    rw [joinK_congr m (fun i hi => (e i hi).symm)]
/-- What was read is the trip, if there is one. -/
theorem trip_read {T p0 p1 p2 : List UInt8} {F G : Nat → ByteArray} {n m : Nat} {f : ByteArray} {t : Int} (h3 : cutL 47 T = [p0, p1, p2]) (hc : cutL 45 p0 = (List.range n).map (fun i => (F i).data.toList)) (h : IsT T G m f t) :
    IsT T F n f t ∧ p1 = f.data.toList ∧ p2 = Lib.itoa t ∧ 1 ≤ t ∧ t ≤ 4 := by
  obtain ⟨a1, a2, a3, a4⟩ := trip_told h
  rw [a1] at h3
  simp only [List.cons.injEq, and_true] at h3
  obtain ⟨e1, e2, e3⟩ := h3
  rw [← e1, a2] at hc
  have hm : m = n := by simpa using congrArg List.length hc
  subst hm
  refine ⟨h.congr fun i hi => ?_, e2.symm, e3.symm, a3, a4⟩
  have := congrArg (·[i]?) hc
  simp [hi] at this
  exact byte_eq (by simp [this])
theorem cut_nil (c : UInt8) : (cutL c []).length = 1 := rfl
end My
end Go.Proofs.YtjmlekhgnbbjoaaGreatDoor

/- Amounts that are read: plain facts. -/
namespace Go.Proofs.YtjmlekhgnbbjoaaGreatDoor
open Go.RowKit Go.Deep
set_option linter.unusedVariables false
namespace My

def IsM (T : List UInt8) (n : Int) : Prop := mOk n = true ∧ moneyT n = T
theorem mOk_bd {n : Int} (h : mOk n = true) : -1000000000000 ≤ n ∧ n ≤ 1000000000000 := by
  unfold mOk inB at h
  simpa using h
theorem parse_all : ∀ (k : Nat) (D : List UInt8), D.length = k → (∀ x ∈ D, isDig x) → valD D < 18446744073709551616 → Lib.parseUint10 0 D = .ok (valD D)
  | 0, D, h, _, _ => by
    obtain rfl := List.eq_nil_of_length_eq_zero h
    rfl
  | k + 1, D, h, hd, hb => by
    rcases List.eq_nil_or_concat D with rfl | ⟨l, c, rfl⟩
    · simp at h
    · rw [List.concat_eq_append] at *
      rw [valD_snoc] at hb ⊢
      rw [List.length_append, List.length_singleton] at h
      exact parse_snoc l 0 (valD l) c (parse_all k l (by omega) (fun x hx => hd x (by simp [hx])) (by omega)) (hd c (by simp)) hb
theorem atoi_digs {c : UInt8} {l : List UInt8} (hd : ∀ x ∈ c :: l, isDig x) (hb : valD (c :: l) ≤ 9223372036854775807) : Lib.atoiAll (c :: l) = .ok (valD (c :: l) : Int) := by
  have hm : Lib.parseMag (c :: l) = .ok (valD (c :: l)) := by
    unfold Lib.parseMag
    rw [if_neg (by simp)]
    exact parse_all _ _ rfl hd (by omega)
  have hc := hd c (by simp)
  unfold isDig at hc
  unfold Lib.atoiAll
  simp only
  rw [if_neg (by omega), hm]
  simp only
  rw [if_neg (by omega), if_neg (by omega), if_neg (by omega)]
theorem atoi_minus {D : List UInt8} (hne : D ≠ []) (hd : ∀ x ∈ D, isDig x) (hb : valD D ≤ 9223372036854775807) : Lib.atoiAll (45 :: D) = .ok (-(valD D : Int)) := by
  have hm : Lib.parseMag D = .ok (valD D) := by
    unfold Lib.parseMag
    rw [if_neg hne]
    exact parse_all _ _ rfl hd (by omega)
  unfold Lib.atoiAll
  have e : (45 : UInt8).toNat = 45 := rfl
  simp only
  rw [if_pos (Or.inr e), hm]
  simp only
  rw [if_neg (by simp [e]), if_neg (by omega), if_pos e]

theorem idx_at : ∀ (a b : List UInt8) (c : UInt8), (∀ x ∈ a, x ≠ c) → Lib.index (a ++ c :: b) [c] = a.length
  | [], b, c, _ => by simp [Lib.index]
  | x :: a, b, c, h => by
    have hx : x ≠ c := h x (by simp)
    have ih := idx_at a b c (fun y hy => h y (by simp [hy]))
    simp only [List.cons_append, Lib.index]
    have : ([c] : List UInt8).isPrefixOf (x :: (a ++ c :: b)) = false := by
      simp [List.isPrefixOf, Ne.symm hx]
    rw [this, ih]
    simp
theorem repl_one (a b : List UInt8) (c : UInt8) (h : ∀ x ∈ a, x ≠ c) : Lib.replace (a ++ c :: b) [c] [] 1 = a ++ b := by
  have hi := idx_at a b c h
  have hc : 1 ≤ Lib.count (a ++ c :: b) [c] := by
    rw [Lib.count_hit (by simp) hi]
    omega
  have hn : Lib.replaceNum (a ++ c :: b) [c] 1 = 1 := by
    unfold Lib.replaceNum
    rw [if_neg (by omega)]
    rfl
  unfold Lib.replace
  rw [if_neg (by simp), hn, Lib.replaceK_hit _ _ 0 _ _ hi]
  simp [Lib.replaceK]
theorem replK_len (old : List UInt8) : ∀ (k : Nat) (s : List UInt8), (Lib.replaceK old [] k s).length ≤ s.length
  | 0, s => by simp [Lib.replaceK]
  | k + 1, s => by
    simp only [Lib.replaceK]
    split
    · exact Nat.le_refl _
    · have := replK_len old k (s.drop ((Lib.index s old).toNat + old.length))
      simp only [List.length_append, List.length_take, List.length_drop, List.length_nil] at *
      omega
theorem repl_len (s old : List UInt8) (n : Int) : (Lib.replace s old [] n).length ≤ s.length := by
  unfold Lib.replace
  split
  · exact Nat.le_refl _
  · exact replK_len _ _ _

/-- The parts of an amount's text. -/
theorem money_shape {T : List UInt8} {n : Int} (h : IsM T n) : ∃ (q d1 d2 : Nat) (P : List UInt8), T = P ++ [46, UInt8.ofNat (48 + d1), UInt8.ofNat (48 + d2)] ∧ d1 < 10 ∧ d2 < 10 ∧ q ≤ 10000000000 ∧
    ((0 ≤ n ∧ P = Lib.decDigits q ∧ n = q * 100 + d1 * 10 + d2) ∨ (n < 0 ∧ P = 45 :: Lib.decDigits q ∧ n = -((q : Int) * 100 + d1 * 10 + d2))) := by
  obtain ⟨h1, rfl⟩ := h
  have hb := mOk_bd h1
  obtain ⟨u, hu⟩ : ∃ u, u = absN n := ⟨_, rfl⟩
  have hu2 : u = n.natAbs := hu
  unfold moneyT moneyU
  rw [← hu]
  refine ⟨u / 100, u % 100 / 10, u % 100 % 10, (if n < 0 then [45] else []) ++ Lib.decDigits (u / 100), ?_, by omega, by omega, by omega, ?_⟩
  · rw [dec_one (u := u % 100 / 10) (by omega), dec_one (u := u % 100 % 10) (by omega)]
    simp
  · by_cases hn : n < 0
    · refine Or.inr ⟨hn, by rw [if_pos hn]; rfl, by omega⟩
    · refine Or.inl ⟨by omega, by rw [if_neg hn]; rfl, by omega⟩
theorem dig_isDig {d : Nat} (h : d < 10) : isDig (UInt8.ofNat (48 + d)) := by unfold isDig; rw [digB h]; omega
theorem dig_ne46 {c : UInt8} (h : isDig c) : c ≠ 46 := by
  unfold isDig at h
  rintro rfl
  have e : (46 : UInt8).toNat = 46 := rfl
  omega
theorem dig_ne45 {c : UInt8} (h : isDig c) : c ≠ 45 := by
  unfold isDig at h
  rintro rfl
  have e : (45 : UInt8).toNat = 45 := rfl
  omega
theorem valD_app2 (q d1 d2 : Nat) (h1 : d1 < 10) (h2 : d2 < 10) : valD (Lib.decDigits q ++ [UInt8.ofNat (48 + d1), UInt8.ofNat (48 + d2)]) = q * 100 + d1 * 10 + d2 := by
  rw [show Lib.decDigits q ++ [UInt8.ofNat (48 + d1), UInt8.ofNat (48 + d2)] = (Lib.decDigits q ++ [UInt8.ofNat (48 + d1)]) ++ [UInt8.ofNat (48 + d2)] from by simp]
  rw [valD_snoc, valD_snoc, dec_val, digB h1, digB h2]
  omega
/-- The program's way gives the number back. -/
theorem money_atoi {T : List UInt8} {n : Int} (h : IsM T n) : Lib.atoiAll (Lib.replace T [46] [] 1) = .ok n := by
  obtain ⟨q, d1, d2, P, rfl, h1, h2, h3, hn⟩ := money_shape h
  have hall : ∀ x ∈ Lib.decDigits q ++ [UInt8.ofNat (48 + d1), UInt8.ofNat (48 + d2)], isDig x := by
    intro x hx
    simp only [List.mem_append, List.mem_cons, List.not_mem_nil, or_false] at hx
    rcases hx with hx | rfl | rfl
    · exact dec_all q x hx
    · exact dig_isDig h1
    · exact dig_isDig h2
  have hv := valD_app2 q d1 d2 h1 h2
  have hP : ∀ x ∈ P, x ≠ 46 := by
    intro x hx
    rcases hn with ⟨_, rfl, _⟩ | ⟨_, rfl, _⟩
    · exact dig_ne46 (dec_all q x hx)
    · rcases List.mem_cons.1 hx with rfl | hx
      · decide
      · exact dig_ne46 (dec_all q x hx)
  rw [repl_one P _ 46 hP]
  rcases hn with ⟨_, rfl, hn⟩ | ⟨_, rfl, hn⟩
  · obtain ⟨D, hD⟩ : ∃ D, D = Lib.decDigits q ++ [UInt8.ofNat (48 + d1), UInt8.ofNat (48 + d2)] := ⟨_, rfl⟩
    rw [← hD] at hall hv ⊢
    cases D with
    | nil => exact absurd hD.symm (by simp)
    | cons c l =>
      rw [atoi_digs hall (by omega), hv]
      congr 1
      omega
  · rw [List.cons_append, atoi_minus (by simp) hall (by omega), hv]
    congr 1
    omega
theorem IsM.inj {T : List UInt8} {n m : Int} (h : IsM T n) (h' : IsM T m) : n = m := by
  have := (money_atoi h).symm.trans (money_atoi h')
  injection this
theorem mwT_is {T : List UInt8} {n : Int} (hT : T ≠ []) : mwT n = T ↔ IsM T n := by
  unfold mwT IsM
  constructor
  · intro h
    split at h
    · rename_i hc
      exact ⟨hc, h⟩
    · exact absurd h.symm hT
  · rintro ⟨h1, h2⟩
    rw [if_pos h1, h2]
theorem moneyT_ne (n : Int) : moneyT n ≠ [] := by
  unfold moneyT moneyU
  simp
/-- What the reference's way sees. -/
theorem mr_told {T : List UInt8} {n : Int} {k : Nat} (h : IsM T n) (hl : T.length = k + 3) : 1 ≤ k ∧ T[k]? = some 46 ∧ ∃ q d1 d2 : Nat, T[k + 1]? = some (UInt8.ofNat (48 + d1)) ∧ T[k + 2]? = some (UInt8.ofNat (48 + d2)) ∧ d1 < 10 ∧ d2 < 10 ∧ q ≤ 10000000000 ∧
    ((T.take k = Lib.decDigits q ∧ n = q * 100 + d1 * 10 + d2) ∨ (T.take k = 45 :: Lib.decDigits q ∧ n = -((q : Int) * 100 + d1 * 10 + d2))) := by
  obtain ⟨q, d1, d2, P, rfl, h1, h2, h3, hn⟩ := money_shape h
  have hP : P.length = k := by simp at hl; exact hl
  have hq : 1 ≤ (Lib.decDigits q).length := by
    have := dec_ne q
    cases hh : Lib.decDigits q with
    | nil => exact absurd hh this
    | cons a b => simp
  refine ⟨?_, ?_, q, d1, d2, ?_, ?_, h1, h2, h3, ?_⟩
  · rcases hn with ⟨_, rfl, _⟩ | ⟨_, rfl, _⟩
    · omega
    · simp at hP; omega
  · rw [← hP, List.getElem?_append_right (Nat.le_refl _)]; simp
  · rw [← hP, List.getElem?_append_right (by omega)]; simp
  · rw [← hP, List.getElem?_append_right (by omega)]; simp
  · rw [← hP, List.take_left']
    · rcases hn with ⟨_, e, hn⟩ | ⟨_, e, hn⟩
      · exact Or.inl ⟨e, hn⟩
      · exact Or.inr ⟨e, hn⟩
    · rfl
theorem mr_short {T : List UInt8} {n : Int} (h : IsM T n) : 4 ≤ T.length := by
  obtain ⟨q, d1, d2, P, rfl, h1, h2, h3, hn⟩ := money_shape h
  have hq : 1 ≤ (Lib.decDigits q).length := by
    have := dec_ne q
    cases hh : Lib.decDigits q with
    | nil => exact absurd hh this
    | cons a b => simp
  rcases hn with ⟨_, rfl, _⟩ | ⟨_, rfl, _⟩ <;> simp only [List.length_append, List.length_cons, List.length_nil] <;> omega
/-- .. and so the number is what was computed. -/
theorem mr_plus {T : List UInt8} {n v : Int} {k : Nat} {a b c : UInt8} (h : IsM T n) (hl : T.length = k + 3) (ha : T[k + 1]? = some a) (hb : T[k + 2]? = some b) (hc : T[0]? = some c) (h45 : c.toNat ≠ 45) (hv : NumV (T.take k) v) :
    0 ≤ v ∧ v ≤ 10000000000 ∧ n = v * 100 + (a.toNat - 48) * 10 + (b.toNat - 48) := by
  obtain ⟨h1, h2, q, d1, d2, h3, h4, h5, h6, h7, hn⟩ := mr_told h hl
  rw [ha] at h3; injection h3 with h3
  rw [hb] at h4; injection h4 with h4
  have ea : a.toNat = 48 + d1 := by rw [h3, digB h5]
  have eb : b.toNat = 48 + d2 := by rw [h4, digB h6]
  rcases hn with ⟨e, hn⟩ | ⟨e, hn⟩
  · rw [e] at hv
    rcases hv with ⟨u, hu, e2, rfl⟩ | ⟨_, hbad⟩
    · have := dec_inj e2
      omega
    · exact absurd rfl (hbad q (by omega))
  · exfalso
    have : (T.take k)[0]? = some c := by rw [List.getElem?_take_of_lt (by omega)]; exact hc
    rw [e] at this
    simp at this
    subst this
    exact h45 rfl
theorem mr_minus {T : List UInt8} {n v : Int} {k : Nat} {a b c : UInt8} (h : IsM T n) (hl : T.length = k + 3) (ha : T[k + 1]? = some a) (hb : T[k + 2]? = some b) (hc : T[0]? = some c) (h45 : c.toNat = 45) (hv : NumV ((T.take k).drop 1) v) :
    0 ≤ v ∧ v ≤ 10000000000 ∧ n = -(v * 100 + (a.toNat - 48) * 10 + (b.toNat - 48)) := by
  obtain ⟨h1, h2, q, d1, d2, h3, h4, h5, h6, h7, hn⟩ := mr_told h hl
  rw [ha] at h3; injection h3 with h3
  rw [hb] at h4; injection h4 with h4
  have ea : a.toNat = 48 + d1 := by rw [h3, digB h5]
  have eb : b.toNat = 48 + d2 := by rw [h4, digB h6]
  rcases hn with ⟨e, hn⟩ | ⟨e, hn⟩
  · exfalso
    have hk : (T.take k)[0]? = some c := by rw [List.getElem?_take_of_lt (by omega)]; exact hc
    rw [e] at hk
    have := dec_all q c (List.mem_of_getElem? hk)
    unfold isDig at this
    omega
  · rw [e] at hv
    simp only [List.drop_succ_cons, List.drop_zero] at hv
    rcases hv with ⟨u, hu, e2, rfl⟩ | ⟨_, hbad⟩
    · have := dec_inj e2
      omega
    · exact absurd rfl (hbad q (by omega))
end My
end Go.Proofs.YtjmlekhgnbbjoaaGreatDoor

/- The program's WireGet. -/
namespace Go.Proofs.YtjmlekhgnbbjoaaGreatDoor
open Go.RowKit Go.Deep
set_option linter.unusedVariables false
namespace My

def GetPost (T : List UInt8) (w : World) (e : Ending) (w' : World) : Prop :=
  ∃ (a : Option Addr) (n cap : Nat) (b : Bool) (F : Nat → ByteArray), e = .returned (.tuple #[.slice a n cap, .bool b]) ∧ Below w.heap.size w w' ∧ n ≤ cap ∧
    ((b = true ∧ IsW T F n ∧ (n = 0 ∨ ∃ g, a = some ⟨g, 0, none⟩ ∧ w.heap.size ≤ g ∧ OwnT w' g n F)) ∨ (b = false ∧ n = 0 ∧ ∀ G m, ¬ IsW T G m))

theorem txt_take (B : List UInt8) (v : Nat) : (txt B).extract 0 v = txt (B.take v) := by
  rw [Lib.extract_eq]
  simp [txt]
theorem txt_drop (B : List UInt8) (v : Nat) : (txt B).extract v (txt B).size = txt (B.drop v) := by
  rw [Lib.extract_eq, txt_size]
  rw [List.take_of_length_le (by rw [List.length_drop]; simp [txt])]
  simp [txt]

theorem clip_nil (w : World) : Calls Tryz.prog 29 #[.slice none 0 0] w fun e w' => e = .returned (.slice none 0 0) ∧ w = w' := by
  go_enter Tryz.func29, Tryz.ntmps29
  go_wp2_with fail
  go_ret
  exact ⟨rfl, rfl⟩
theorem clip_any (g n cap : Nat) (w : World) (h : n ≤ cap) (h1 : n ≤ 1048576) : Calls Tryz.prog 29 #[.slice (some ⟨g, 0, none⟩) n cap] w fun e w' => e = .returned (.slice (some ⟨g, 0, none⟩) n n) ∧ w = w' := by
  go_enter Tryz.func29, Tryz.ntmps29
  go_wp2_with fail
  go_ret
  exact ⟨rfl, rfl⟩

/-- The state of the loop: the words so far in a row of their own, what is left. -/
structure LoopG (W : World) (T : List UInt8) (l : Value) (k : Nat) (F : Nat → ByteArray) (R : List UInt8) (w' : World) : Prop where
  own : w'.ownsRow W.heap.size 9 1 l k (strsOf F k)
  inv : Inv T k F R
  b : Below W.heap.size W w'

theorem cut_len {R A B : List UInt8} {f : Bool} {sep : List UInt8} (h : Lib.cut R sep = (A, B, f)) : A.length ≤ R.length ∧ B.length ≤ R.length := by
  unfold Lib.cut at h
  split at h <;> simp only [Prod.mk.injEq] at h <;> obtain ⟨rfl, rfl, rfl⟩ := h
  · simp only [List.length_take, List.length_drop]; omega
  · simp
theorem owns_below {w w' : World} {base e n : Nat} {l : Value} {xs : List Value} (h : w.ownsRow base e 1 l n xs) (hb : Below w.heap.size w w') : w'.ownsRow base e 1 l n xs :=
  h.kept (row := none) ⟨hb.os, hb.tape, hb.output, hb.size, fun k hk _ => hb.block k hk⟩ (by cases hv : l.ownBlock with
    | none => exact Or.inl rfl
    | some x => exact Or.inr (by simp))
theorem LoopG.below {W w w' : World} {T : List UInt8} {l : Value} {k : Nat} {F : Nat → ByteArray} {R : List UInt8} (h : LoopG W T l k F R w) (hb : Below w.heap.size w w') : LoopG W T l k F R w' :=
  ⟨owns_below h.own hb, h.inv, bT h.b hb⟩
theorem LoopG.shape {W w : World} {T : List UInt8} {l : Value} {k : Nat} {F : Nat → ByteArray} {R : List UInt8} (h : LoopG W T l k F R w) :
    (l = .slice none 0 0 ∧ k = 0) ∨ ∃ g c, l = .slice (some ⟨g, 0, none⟩) k c ∧ OwnT w g k F ∧ W.heap.size ≤ g ∧ k ≤ c := by
  have h0 := h.own
  rcases h0.2 with ⟨h', hk⟩ | ⟨g, c, cur, hv, hb, hh, hn, hc, hs, ht⟩
  · exact Or.inl ⟨h', hk⟩
  · subst hv
    have := ownT_of_owns h0
    exact Or.inr ⟨g, c, rfl, this.1, this.2.1, this.2.2⟩
theorem LoopG.push {W w w' : World} {T : List UInt8} {l : Value} {k : Nat} {F : Nat → ByteArray} {R R' : List UInt8} {s : ByteArray} {g c : Nat} {o : Obj} (h : LoopG W T l k F R w)
    (hown : w'.ownsRow W.heap.size 9 1 (.slice (some ⟨g, 0, none⟩) (k + 1) c) (k + 1) (strsOf F k ++ [.string s])) (hgrow : (w.alloc o).grownBy w' l.ownBlock)
    (hi : Inv T (k + 1) (putF F k s) R') : LoopG W T (.slice (some ⟨g, 0, none⟩) (k + 1) c) (k + 1) (putF F k s) R' w' := by
  refine ⟨by rw [strsOf_put]; exact hown, hi, ?_⟩
  have hsz := h.b.size
  refine (h.b.alloc hsz o).grown hgrow (by simp; omega) ?_
  intro q hq
  exact (h.own.lt q hq).1

end My
end Go.Proofs.YtjmlekhgnbbjoaaGreatDoor

/- The reference's WireGet. -/
namespace Go.Proofs.YtjmlekhgnbbjoaaGreatDoor
open Go.RowKit Go.Deep
set_option linter.unusedVariables false
namespace My

/-- A is the text up to the colon of the next word. -/
theorem get_told {T : List UInt8} {k fr : Nat} {F : Nat → ByteArray} {v : Int} {j : Nat} (h : Inv T k F (T.drop fr)) (hl : T.length ≤ 6000) (hfr : fr < T.length) (hj : fr ≤ j) (hj2 : j ≤ T.length)
    (hA : ∀ c ∈ (T.drop fr).take (j - fr), c ≠ 58) (hc : j = T.length ∨ T[j]? = some 58) (hn : NumV ((T.drop fr).take (j - fr)) v) {G : Nat → ByteArray} {m : Nat} (hT : T = putL G m) :
    k < m ∧ v = (G k).size ∧ T[j]? = some 58 ∧ T[j + 1 + (G k).size]? = some 44 := by
  have hne : T.drop fr ≠ [] := by
    intro e
    have := congrArg List.length e
    simp at this
    omega
  obtain ⟨h1, h2⟩ := h.head hne hT
  have hlen := word_len h2
  rw [List.length_drop] at hlen
  rw [word_shape] at h2
  obtain ⟨d, hd⟩ : ∃ d, d = j - fr := ⟨_, rfl⟩
  rw [← hd] at hA hn
  obtain ⟨D, hD⟩ : ∃ D, D = Lib.decDigits (G k).size := ⟨_, rfl⟩
  have hDn : ∀ c ∈ D, c ≠ 58 := by rw [hD]; exact fun c hc => digit_ne hc
  rw [← hD] at h2
  have hget : ∀ i, T[fr + i]? = (D ++ 58 :: ((G k).data.toList ++ 44 :: putL (fun i => G (k + 1 + i)) (m - (k + 1))))[i]? := by
    intro i
    rw [← h2, List.getElem?_drop]
  have hrl : (T.drop fr).length = T.length - fr := List.length_drop
  have hRl : T.length - fr = D.length + 1 + ((G k).size + 1 + (putL (fun i => G (k + 1 + i)) (m - (k + 1))).length) := by
    rw [← hrl, h2]
    simp
    omega
  have hdD : d = D.length := by
    rcases Nat.lt_trichotomy d D.length with hlt | heq | hgt
    · exfalso
      rcases hc with hc | hc
      · omega
      · have := hget d
        rw [show fr + d = j from by omega, hc, List.getElem?_append_left hlt] at this
        exact hDn 58 (List.mem_of_getElem? this.symm) rfl
    · exact heq
    · exfalso
      apply hA 58 _ rfl
      rw [h2]
      have : (List.take d (D ++ 58 :: ((G k).data.toList ++ 44 :: putL (fun i => G (k + 1 + i)) (m - (k + 1)))))[D.length]? = some 58 := by
        rw [List.getElem?_take_of_lt hgt, List.getElem?_append_right (Nat.le_refl _)]
        simp
      exact List.mem_of_getElem? this
  have hAD : (T.drop fr).take d = D := by rw [h2, hdD]; simp
  rw [hAD, hD] at hn
  have hv : v = (G k).size := by
    rcases hn with ⟨u, hu, e, rfl⟩ | ⟨_, hbad⟩
    · rw [dec_inj e]
    · exact absurd rfl (hbad (G k).size (by omega))
  have hj58 : T[j]? = some 58 := by
    have := hget d
    rw [show fr + d = j from by omega, hdD, List.getElem?_append_right (Nat.le_refl _)] at this
    simpa using this
  have h44 : T[j + 1 + (G k).size]? = some 44 := by
    have := hget (d + 1 + (G k).size)
    rw [show fr + (d + 1 + (G k).size) = j + 1 + (G k).size from by omega, hdD, List.getElem?_append_right (by omega), show D.length + 1 + (G k).size - D.length = (G k).size + 1 from by omega, List.getElem?_cons_succ,
      List.getElem?_append_right (by simp)] at this
    simpa using this
  exact ⟨h1, hv, hj58, h44⟩
theorem get_no {T : List UInt8} {k fr : Nat} {F : Nat → ByteArray} {v : Int} {j : Nat} (h : Inv T k F (T.drop fr)) (hl : T.length ≤ 6000) (hfr : fr < T.length) (hj : fr ≤ j) (hj2 : j ≤ T.length)
    (hA : ∀ c ∈ (T.drop fr).take (j - fr), c ≠ 58) (hc : j = T.length ∨ T[j]? = some 58) (hn : NumV ((T.drop fr).take (j - fr)) v)
    (hbad : j = T.length ∨ v < 0 ∨ (T.length : Int) ≤ j + 1 + v ∨ (∃ u : Nat, v = u ∧ ∃ c, T[j + 1 + u]? = some c ∧ c ≠ 44) ∨ 40 ≤ k) : ∀ G m, ¬ IsW T G m := by
  rintro G m ⟨hT, hm, _⟩
  obtain ⟨h1, h2, h3, h4⟩ := get_told h hl hfr hj hj2 hA hc hn hT
  have l3 := (List.getElem?_eq_some_iff.1 h3).1
  have l4 := (List.getElem?_eq_some_iff.1 h4).1
  rcases hbad with hb | hb | hb | ⟨u, hu, c, hc, hb⟩ | hb
  · omega
  · omega
  · omega
  · have e : u = (G k).size := by omega
    subst e
    rw [h4] at hc
    injection hc with hc
    exact hb hc.symm
  · omega
theorem get_step {T : List UInt8} {k fr u : Nat} {F : Nat → ByteArray} {j : Nat} (h : Inv T k F (T.drop fr)) (hp : T = putL F k ++ T.drop fr) (hfr : fr < T.length) (hj : fr ≤ j)
    (hn : NumV ((T.drop fr).take (j - fr)) (u : Int)) (hc : T[j]? = some 58) (h44 : T[j + 1 + u]? = some 44) :
    Inv T (k + 1) (putF F k (txt ((T.drop (j + 1)).take u))) (T.drop (j + u + 2)) ∧ T = putL (putF F k (txt ((T.drop (j + 1)).take u))) (k + 1) ++ T.drop (j + u + 2) := by
  have l3 := (List.getElem?_eq_some_iff.1 hc).1
  have l4 := (List.getElem?_eq_some_iff.1 h44).1
  obtain ⟨X, hX⟩ : ∃ X, X = (T.drop (j + 1)).take u := ⟨_, rfl⟩
  have hXl : X.length = u := by rw [hX, List.length_take, List.length_drop]; omega
  rw [← hX]
  have hdec : (T.drop fr).take (j - fr) = Lib.decDigits u := by
    rcases hn with ⟨u', hu, e, he⟩ | ⟨he, _⟩
    · have : u = u' := by omega
      subst this
      exact e
    · omega
  have d1 : T.drop fr = Lib.decDigits u ++ T.drop j := by
    rw [← hdec]
    conv => lhs; rw [← List.take_append_drop (j - fr) (T.drop fr), List.drop_drop, show fr + (j - fr) = j from by omega]
  have d2 : T.drop j = 58 :: T.drop (j + 1) := by
    rw [List.drop_eq_getElem_cons l3]
    congr 1
    have := (List.getElem?_eq_some_iff.1 hc).2
    exact this
  have d3 : T.drop (j + 1) = X ++ T.drop (j + 1 + u) := by
    rw [hX]
    conv => lhs; rw [← List.take_append_drop u (T.drop (j + 1)), List.drop_drop]
  have d4 : T.drop (j + 1 + u) = 44 :: T.drop (j + u + 2) := by
    rw [List.drop_eq_getElem_cons l4, show j + 1 + u + 1 = j + u + 2 from by omega]
    congr 1
    exact (List.getElem?_eq_some_iff.1 h44).2
  have hw : T.drop fr = word1 (txt X) ++ T.drop (j + u + 2) := by
    rw [word_shape, txt_size, hXl, txt_data, d1, d2, d3, d4]
  have hput : putL (putF F k (txt X)) (k + 1) = putL F k ++ word1 (txt X) := by
    have e : putL (putF F k (txt X)) k = putL F k := putL_congr k fun i hi => by
      have : ¬ i = k := by omega
      simp [putF, this]
    simp only [putL]
    rw [e]
    simp [putF]
  refine ⟨⟨?_, ?_⟩, ?_⟩
  · rw [sumZ_put, txt_size, hXl, List.length_drop]
    have := h.sz
    rw [List.length_drop] at this
    omega
  · intro G m hT
    have hne : T.drop fr ≠ [] := by
      intro e
      have := congrArg List.length e
      simp at this
      omega
    obtain ⟨h1, h2⟩ := h.head hne hT
    rw [hw] at h2
    obtain ⟨e1, e2⟩ := word_cut h2
    refine ⟨h1, fun i hi => ?_, e2⟩
    by_cases hik : i = k
    · subst hik
      simpa [putF] using e1
    · simp only [putF, if_neg hik]
      exact (h.all G m hT).2.1 i (by omega)
  · rw [hput, List.append_assoc, ← hw]
    exact hp

/-- The reference's loop. -/
structure LoopS (W : World) (T : List UInt8) (l : Value) (k : Nat) (F : Nat → ByteArray) (fr : Nat) (w' : World) : Prop where
  own : w'.ownsRow W.heap.size 9 1 l k (strsOf F k)
  inv : Inv T k F (T.drop fr)
  pre : T = putL F k ++ T.drop fr
  k40 : k ≤ 40
  le : fr ≤ T.length
  b : Below W.heap.size W w'
  sl : ∃ g c, l = .slice (some ⟨g, 0, none⟩) k c
theorem LoopS.below {W w w' : World} {T : List UInt8} {l : Value} {k fr : Nat} {F : Nat → ByteArray} (h : LoopS W T l k F fr w) (hb : Below w.heap.size w w') : LoopS W T l k F fr w' :=
  ⟨owns_below h.own hb, h.inv, h.pre, h.k40, h.le, bT h.b hb, h.sl⟩
theorem LoopS.push {W w w' : World} {T : List UInt8} {l : Value} {k fr fr' : Nat} {F : Nat → ByteArray} {s : ByteArray} {g c : Nat} {o : Obj} (h : LoopS W T l k F fr w)
    (hown : w'.ownsRow W.heap.size 9 1 (.slice (some ⟨g, 0, none⟩) (k + 1) c) (k + 1) (strsOf F k ++ [.string s])) (hgrow : (w.alloc o).grownBy w' l.ownBlock)
    (hi : Inv T (k + 1) (putF F k s) (T.drop fr') ∧ T = putL (putF F k s) (k + 1) ++ T.drop fr') (hk : k < 40) (hle : fr' ≤ T.length) : LoopS W T (.slice (some ⟨g, 0, none⟩) (k + 1) c) (k + 1) (putF F k s) fr' w' := by
  refine ⟨by rw [strsOf_put]; exact hown, hi.1, hi.2, hk, hle, ?_, g, c, rfl⟩
  have hsz := h.b.size
  refine (h.b.alloc hsz o).grown hgrow (by simp; omega) ?_
  intro q hq
  exact (h.own.lt q hq).1
theorem sget (s : ByteArray) {k : Nat} (hk : k < s.size) : s.data.toList[k]? = some s[k] := by
  rw [List.getElem?_eq_getElem (by simpa using hk)]
  rfl
theorem slice_txt (s : ByteArray) (a b : Nat) : s.extract a b = txt ((s.data.toList.drop a).take (b - a)) := by
  have := Lib.extract_data s a b
  rw [← data_txt (s.extract a b), this]

theorem slice_at (s : ByteArray) (lo hi : Nat) (h1 : lo ≤ hi) (h2 : hi ≤ s.size) (a b : Int) (ha : a = lo) (hb : b = hi) (wx : World) :
    (Instr.slice 9 (.string s) (some (.int .i64 a)) (some (.int .i64 b)) none).run Tryz.prog wx = .ok (.string (s.extract lo hi)) wx := by
  subst ha hb
  have := run_slice_string (P := Tryz.prog) wx 9 s .i64 .i64 (lo : Int) (hi : Int) Tryz.underlying9 (by omega) (by omega) (by omega)
  simpa using this

end My
end Go.Proofs.YtjmlekhgnbbjoaaGreatDoor

/- The exact laws' marks in slices of strings. -/
namespace Go.Proofs.YtjmlekhgnbbjoaaGreatDoor
open Go.RowKit Go.Deep
set_option linter.unusedVariables false
namespace My

/-- n texts lie in a row that may be written, above a base. -/

structure OwnQ (base : Nat) (w : World) (a : Option Addr) (n cap : Nat) (F : Nat → ByteArray) : Prop where
  le : n ≤ cap
  own : n = 0 ∨ ∃ g, a = some ⟨g, 0, none⟩ ∧ base ≤ g ∧ OwnT w g n F
theorem OwnQ.inS {base : Nat} {w : World} {a : Option Addr} {n cap : Nat} {F : Nat → ByteArray} (h : OwnQ base w a n cap F) : InS w a n F := by
  rcases h.own with h0 | ⟨g, rfl, hg, ho⟩
  · exact Or.inl h0
  · exact ho.inS
theorem OwnQ.below {base B : Nat} {w w' : World} {a : Option Addr} {n cap : Nat} {F : Nat → ByteArray} (h : OwnQ base w a n cap F) (hb : Below B w w') (hB : w.heap.size ≤ B) : OwnQ base w' a n cap F := by
  refine ⟨h.le, ?_⟩
  rcases h.own with h0 | ⟨g, rfl, hg, ho⟩
  · exact Or.inl h0
  · exact Or.inr ⟨g, rfl, hg, ho.below hb hB⟩

end My
end Go.Proofs.YtjmlekhgnbbjoaaGreatDoor

/- What five listed variables give. -/
namespace Go.Proofs.YtjmlekhgnbbjoaaGreatDoor
open Go.RowKit
set_option linter.unusedVariables false
namespace My

theorem gSyn : Tryz.prog.globalNamed "strconv.ErrSyntax" = some 1 := by kernel_rfl
theorem gSynType : (Tryz.prog.globals[1]?).map (·.type) = some 56 := by kernel_rfl
theorem gRng : Tryz.prog.globalNamed "strconv.ErrRange" = some 2 := by kernel_rfl
theorem gRngType : (Tryz.prog.globals[2]?).map (·.type) = some 56 := by kernel_rfl
theorem cellsES : Tryz.prog.cellsOf 143 = 1 := by kernel_rfl
theorem cellsStr1 : Tryz.prog.cellsOf 9 = 1 := by kernel_rfl
theorem starES : "*" ++ "errors.errorString" = "*errors.errorString" := by decide
theorem rowES (u : TypeId) (h : Tryz.prog.typeName? 3 u = some "*errors.errorString") : u = 141 :=
  typeName_ptr_named (nm := "errors.errorString") (by rw [starES]; kernel_rfl) (by kernel_rfl) (by decide) u (by rw [starES]; exact h)
theorem errAt_syn {W : World} {text : List UInt8} {r : List (String × DataW Unit)} (h : laidMet Tryz.prog (("strconv.ErrSyntax", .iface "*errors.errorString" (.ptr (.agg [.lit (.string text)]))) :: r) W) : ErrAt W "strconv.ErrSyntax" := by
  obtain ⟨a, s, hv, _, _, _⟩ := laid_sentinel h gSyn gSynType Tryz.underlying56 rowES Tryz.underlying141 Tryz.underlying143 rfl rfl Tryz.underlying9 cellsES cellsStr1
  exact ⟨_, _, hv⟩
theorem errAt_rng {W : World} {text : List UInt8} {r : List (String × DataW Unit)} (h : laidMet Tryz.prog (("strconv.ErrRange", .iface "*errors.errorString" (.ptr (.agg [.lit (.string text)]))) :: r) W) : ErrAt W "strconv.ErrRange" := by
  obtain ⟨a, s, hv, _, _, _⟩ := laid_sentinel h gRng gRngType Tryz.underlying56 rowES Tryz.underlying141 Tryz.underlying143 rfl rfl Tryz.underlying9 cellsES cellsStr1
  exact ⟨_, _, hv⟩
abbrev Env5 (W : World) : Prop := EnvN W

end My
end Go.Proofs.YtjmlekhgnbbjoaaGreatDoor

/- FnExactWireGet: the walk. -/
namespace Go.Proofs.YtjmlekhgnbbjoaaGreatDoor
open Go.RowKit Go.Deep
set_option linter.unusedVariables false
namespace My

/-- What WireGet gives, sorted out. -/
theorem getPost_own {T : List UInt8} {w w' : World} {e : Ending} (h : GetPost T w e w') :
    ∃ (a : Option Addr) (n cap : Nat) (b : Bool) (F : Nat → ByteArray), e = .returned (.tuple #[.slice a n cap, .bool b]) ∧ OwnQ w.heap.size w' a n cap F ∧ n ≤ 40 ∧ Below w.heap.size w w' ∧
      ((b = true ∧ IsW T F n) ∨ (b = false ∧ n = 0 ∧ ∀ G m, ¬ IsW T G m)) := by
  obtain ⟨a, n, cap, b, F, rfl, hb, hc, h⟩ := h
  refine ⟨a, n, cap, b, F, rfl, ⟨hc, ?_⟩, ?_, hb, ?_⟩
  · rcases h with ⟨_, _, h0 | ⟨g, rfl, hg, ho⟩⟩ | ⟨_, h0, _⟩
    · exact Or.inl h0
    · exact Or.inr ⟨g, rfl, hg, ho⟩
    · exact Or.inl h0
  · rcases h with ⟨_, hw, _⟩ | ⟨_, h0, _⟩
    · exact hw.2.1
    · omega
  · rcases h with ⟨h1, h2, _⟩ | h
    · exact Or.inl ⟨h1, h2⟩
    · exact Or.inr h
theorem getPost_same {T : List UInt8} {F G : Nat → ByteArray} {n m : Nat} {b c : Bool} (h : (b = true ∧ IsW T F n) ∨ (b = false ∧ n = 0 ∧ ∀ G m, ¬ IsW T G m)) (h' : (c = true ∧ IsW T G m) ∨ (c = false ∧ m = 0 ∧ ∀ G m, ¬ IsW T G m)) :
    b = c ∧ n = m ∧ ∀ i, i < n → F i = G i := by
  rcases h with ⟨rfl, h⟩ | ⟨rfl, rfl, h⟩ <;> rcases h' with ⟨rfl, h'⟩ | ⟨rfl, rfl, h'⟩
  · exact ⟨rfl, (h.inj h').1, (h.inj h').2⟩
  · exact absurd h (h' _ _)
  · exact absurd h' (h _ _)
  · exact ⟨rfl, rfl, fun i hi => by omega⟩

theorem InS.congr {w : World} {a : Option Addr} {n : Nat} {F G : Nat → ByteArray} (h : InS w a n F) (e : ∀ i, i < n → F i = G i) : InS w a n G := by
  rcases h with h | ⟨b, off, rfl, k⟩
  · exact Or.inl h
  · exact Or.inr ⟨b, off, rfl, fun i hi => by rw [k.c i hi, e i hi], k.lt⟩

end My
end Go.Proofs.YtjmlekhgnbbjoaaGreatDoor

/- MoneyRead, as both have it. -/
namespace Go.Proofs.YtjmlekhgnbbjoaaGreatDoor
open Go.RowKit Go.Deep
set_option linter.unusedVariables false
namespace My

def MonPost (T : List UInt8) (w : World) (e : Ending) (w' : World) : Prop :=
  ∃ (n : Int) (b : Bool), e = .returned (.tuple #[.int .i64 n, .bool b]) ∧ Below w.heap.size w w' ∧ -1000000000000 ≤ n ∧ n ≤ 1000000000000 ∧ ((b = true ∧ IsM T n) ∨ (b = false ∧ n = 0 ∧ ∀ m, ¬ IsM T m))

end My
end Go.Proofs.YtjmlekhgnbbjoaaGreatDoor

/- FnWireText: the drawn text, the walk. -/
namespace Go.Proofs.YtjmlekhgnbbjoaaGreatDoor
open Go.RowKit Go.Deep
set_option linter.unusedVariables false
namespace My

def WTextPost (q : Nat) (w : World) (e : Ending) (w' : World) : Prop := ∃ t : ByteArray, e = .returned (.string t) ∧ t.size ≤ q ∧ Below w.heap.size w w'

end My
end Go.Proofs.YtjmlekhgnbbjoaaGreatDoor

/- FnExactMoneyRead, FnMoneyText: the walks; seven listed variables. -/
namespace Go.Proofs.YtjmlekhgnbbjoaaGreatDoor
open Go.RowKit Go.Deep
set_option linter.unusedVariables false
namespace My

theorem monPost_same {T : List UInt8} {n m : Int} {b c : Bool} (h : (b = true ∧ IsM T n) ∨ (b = false ∧ n = 0 ∧ ∀ m, ¬ IsM T m)) (h' : (c = true ∧ IsM T m) ∨ (c = false ∧ m = 0 ∧ ∀ m, ¬ IsM T m)) : b = c ∧ n = m := by
  rcases h with ⟨rfl, h⟩ | ⟨rfl, rfl, h⟩ <;> rcases h' with ⟨rfl, h'⟩ | ⟨rfl, rfl, h'⟩
  · exact ⟨rfl, h.inj h'⟩
  · exact absurd h (h' _)
  · exact absurd h' (h _)
  · exact ⟨rfl, rfl⟩

theorem mwT_len (n : Int) : (mwT n).length ≤ 40 := by
  unfold mwT
  split
  · rename_i h
    have hb := mOk_bd h
    unfold moneyT moneyU
    have hu : absN n ≤ 1000000000000 := by unfold absN; omega
    have h1 := dec_size (absN n / 100) (by omega)
    have h2 := dec_size (absN n % 100 / 10) (by omega)
    have h3 := dec_size (absN n % 100 % 10) (by omega)
    rw [txt_size] at h1 h2 h3
    have h2' := dec_one (u := absN n % 100 / 10) (by omega)
    have h3' := dec_one (u := absN n % 100 % 10) (by omega)
    rw [h2', h3']
    split <;> simp <;> omega
  · simp

theorem mon_law {d m : Int} {c : Bool} (h : (c = true ∧ IsM (mwT d) m) ∨ (c = false ∧ m = 0 ∧ ∀ m, ¬ IsM (mwT d) m)) : c = mOk d ∧ (c = true → m = d) := by
  by_cases hd : mOk d = true
  · have hi : IsM (mwT d) d := by
      unfold mwT
      rw [if_pos hd]
      exact ⟨hd, rfl⟩
    rcases h with ⟨rfl, h⟩ | ⟨_, _, h⟩
    · exact ⟨hd.symm, fun _ => h.inj hi⟩
    · exact absurd hi (h d)
  · have e : mwT d = [] := by unfold mwT; rw [if_neg hd]
    rw [e] at h
    rcases h with ⟨_, h⟩ | ⟨rfl, _, _⟩
    · exact absurd h.2 (moneyT_ne m)
    · refine ⟨by simpa using (Bool.eq_false_iff.2 hd).symm, fun h => by cases h⟩

end My
end Go.Proofs.YtjmlekhgnbbjoaaGreatDoor

/- Texts that are cut: the reference's l3Cut, the library's Split and the program's clone. -/
namespace Go.Proofs.YtjmlekhgnbbjoaaGreatDoor
open Go.RowKit Go.Deep
set_option linter.unusedVariables false
namespace My

/-- The pieces as strings. -/
def pcs (L : List (List UInt8)) (i : Nat) : ByteArray := txt (L.getD i [])
structure LoopC (W : World) (c : UInt8) (T : List UInt8) (k fr i : Nat) (l : Value) (F : Nat → ByteArray) (w' : World) : Prop where
  own : w'.ownsRow W.heap.size 9 1 l k (strsOf F k)
  cut : cutL c T = (List.range k).map (fun i => (F i).data.toList) ++ cutL c (T.drop fr)
  noc : ∀ x ∈ (T.drop fr).take (i - fr), x ≠ c
  b : Below W.heap.size W w'
  sl : ∃ g cc, l = .slice (some ⟨g, 0, none⟩) k cc
theorem LoopC.push {W w w' : World} {c : UInt8} {T : List UInt8} {k fr i : Nat} {l : Value} {F : Nat → ByteArray} {s : ByteArray} {g cc : Nat} {o : Obj} (h : LoopC W c T k fr i l F w)
    (hown : w'.ownsRow W.heap.size 9 1 (.slice (some ⟨g, 0, none⟩) (k + 1) cc) (k + 1) (strsOf F k ++ [.string s])) (hgrow : (w.alloc o).grownBy w' l.ownBlock)
    (hfr : fr ≤ i) (hc : T[i]? = some c) (hs : s.data.toList = (T.drop fr).take (i - fr)) : LoopC W c T (k + 1) (i + 1) (i + 1) (.slice (some ⟨g, 0, none⟩) (k + 1) cc) (putF F k s) w' := by
  have hlt := (List.getElem?_eq_some_iff.1 hc).1
  refine ⟨by rw [strsOf_put]; exact hown, ?_, by simp, ?_, g, cc, rfl⟩
  · rw [h.cut, List.range_succ, List.map_append, List.append_assoc]
    congr 1
    · apply List.map_congr_left
      intro j hj
      have : ¬ j = k := by have := List.mem_range.1 hj; omega
      simp [putF, this]
    · have e : T.drop fr = (T.drop fr).take (i - fr) ++ c :: T.drop (i + 1) := by
        conv => lhs; rw [← List.take_append_drop (i - fr) (T.drop fr), List.drop_drop, show fr + (i - fr) = i from by omega, List.drop_eq_getElem_cons hlt, (List.getElem?_eq_some_iff.1 hc).2]
      conv => lhs; rw [e]
      rw [cutL_app c _ _ h.noc]
      simp [putF, hs]
  · have hsz := h.b.size
    refine (h.b.alloc hsz o).grown hgrow (by simp; omega) ?_
    intro q hq
    exact (h.own.lt q hq).1

/-- What l3Cut gives. -/
def CutPost (c : UInt8) (T : List UInt8) (w : World) (e : Ending) (w' : World) : Prop :=
  ∃ (g n cap : Nat) (F : Nat → ByteArray), e = .returned (.slice (some ⟨g, 0, none⟩) n cap) ∧ w.heap.size ≤ g ∧ OwnT w' g n F ∧ n ≤ cap ∧ cutL c T = (List.range n).map (fun i => (F i).data.toList) ∧ Below w.heap.size w w'

set_option maxRecDepth 100000 in
set_option maxHeartbeats 4000000 in
theorem l3Cut_any (s : ByteArray) (c : UInt8) (w : World) (hs : s.size ≤ 1048576) : Calls Tryz.prog 16 #[.string s, .int .u8 (c.toNat : Int)] w (CutPost c s.data.toList w) := by
  have hlen : s.data.toList.length = s.size := by simp
  have HB0 := Lib.hid ((Below.refl w.heap.size w).alloc (Nat.le_refl _) (.cells #[] 9))
  obtain ⟨i0, hi0, hz0, hz1, hz2⟩ := info_parts infoStr
  have HST : Hid (LoopC w c s.data.toList 0 0 0 (.slice (some ⟨w.heap.size, 0, none⟩) 0 0) (fun _ => ⟨#[]⟩) (w.alloc (.cells #[] 9))) :=
    ⟨World.ownsRow_lit w #[] 0 (Nat.le_refl _) (by simp [maxLen]) rfl, rfl, by simp, HB0.out, w.heap.size, 0, rfl⟩
  obtain ⟨T, hT⟩ : ∃ T, T = s.data.toList := ⟨_, rfl⟩
  have HG : Hid (∀ k (hk : k < s.size), T[k]? = some s[k]) := by rw [hT]; exact fun k hk => sget s hk
  have HX : Hid (∀ a b, (s.extract a b).data.toList = (T.drop a).take (b - a)) := by rw [hT]; exact fun a b => Lib.extract_data s a b
  rw [← hT] at HST hlen ⊢
  clear hT HB0
  obtain ⟨cv, hcv⟩ : ∃ cv : Int, cv = (c.toNat : Int) := ⟨_, rfl⟩
  have HCV := Lib.hid hcv
  rw [← hcv]
  clear hcv
  go_enter Tryz.func16, Tryz.ntmps16
  go_wp2_with fail
  go_loopw [5, 6, 7] (fun l f i w' => ∃ (k fr j : Nat) (F : Nat → ByteArray), f = .int .i64 fr ∧ i = .int .i64 j ∧ fr ≤ j ∧ j ≤ s.size ∧ k ≤ j ∧ LoopC w c T k fr j l F w') (fun _ _ i _ => s.size - (intOf i).toNat)
  case atStart => exact ⟨0, 0, 0, _, rfl, rfl, Nat.le_refl _, Nat.zero_le _, Nat.le_refl _, HST.out⟩
  case round =>
    obtain ⟨k, fr, j, F, rfl, rfl, hfr, hj, hk, hl⟩ := hrel
    obtain ⟨wo, rfl⟩ : ∃ wo, wo = wr := ⟨_, rfl⟩
    have HL := Lib.hid hl
    obtain ⟨g, cc, rfl⟩ := hl.sl
    have hszo := hl.b.size
    clear hl HST
    by_cases hlt : j < s.size
    · have hget := Lib.hid (HG.out j hlt)
      by_cases hc : s[j] = c
      · have e1 : ((s[j]).toNat : Int) = cv := by rw [hc]; exact HCV.out.symm
        have hTj : T[j]? = some c := by rw [hget.out, hc]
        have HTJ := Lib.hid hTj
        have hsl := fun wx => slice_at s fr j hfr (by omega) (fr : Int) (j : Int) rfl rfl wx
        have e2 : (((s[j]).toNat : Int) == cv) = true := by simp [e1]
        clear hc hTj e1
        go_wp2_with (at_builtin; go_loud (refine wpList_append_lies _ rfl (.tmp 20) (.tmp 25) 24 rfl w.heap.size 9 i0 (.string ⟨#[]⟩) 1 16 Tryz.underlying24 hi0 hz0 hz1 hz2 rfl (by decide) _ k (strsOf F k) rfl (owns_below HL.out.own ((Below.refl _ _).alloc (Nat.le_refl _) _)) ⟨wo.heap.size, 0, none⟩ 1 1 [.string (s.extract fr j)] rfl rfl (news_str _ _ _) (by simp [Value.oneCell']) (by decide) (by unfold maxLen; omega) (by omega) (by simp; omega) (wo.heap.size + 1) (by simp) ?_; intro g' c' w4 hown hgrow hat hlt4; have HW4 := Lib.hid (HL.out.push hown hgrow hfr HTJ.out (HX.out fr j)); clear hown hgrow hat))
        go_roundw
        case rel => exact ⟨k + 1, j + 1, j + 1, _, by go_num, by go_num, Nat.le_refl _, by omega, by omega, HW4.out⟩
        case measure => simp [intOf]; omega
      · have e2 : (((s[j]).toNat : Int) == cv) = false := by
          rw [HCV.out]
          have : ((s[j]).toNat : Int) ≠ (c.toNat : Int) := by
            intro e
            exact hc (UInt8.toNat_inj.1 (by omega))
          simp [this]
        have HNX : Hid (LoopC w c T k fr (j + 1) (.slice (some ⟨g, 0, none⟩) k cc) F wo) := by
          refine ⟨HL.out.own, HL.out.cut, ?_, HL.out.b, HL.out.sl⟩
          intro x hx
          rw [show j + 1 - fr = (j - fr) + 1 from by omega, List.take_add_one, List.getElem?_drop, show fr + (j - fr) = j from by omega, hget.out] at hx
          rcases List.mem_append.1 hx with hx | hx
          · exact HL.out.noc x hx
          · simp at hx
            subst hx
            exact hc
        clear hc
        go_wp2_with fail
        go_roundw
        case rel => exact ⟨k, fr, j + 1, F, rfl, by go_num, by omega, by omega, by omega, HNX.out⟩
        case measure => simp [intOf]; omega
    · have hsl := fun wx => slice_from s fr (by omega) wx
      have hX := HX.out fr s.size
      have hje : j = s.size := by omega
      have HN : Hid (∀ x ∈ T.drop fr, x ≠ c) := by
        intro x hx
        refine HL.out.noc x ?_
        rw [List.take_of_length_le (by rw [List.length_drop]; omega)]
        exact hx
      have HXX : Hid ((s.extract fr s.size).data.toList = T.drop fr) := by
        show _ = _
        rw [hX, List.take_of_length_le (by rw [List.length_drop]; omega)]
      clear hX hje
      go_wp2_with (at_builtin; go_loud (refine wpList_append_lies _ rfl (.tmp 29) (.tmp 33) 24 rfl w.heap.size 9 i0 (.string ⟨#[]⟩) 1 16 Tryz.underlying24 hi0 hz0 hz1 hz2 rfl (by decide) _ k (strsOf F k) rfl (owns_below HL.out.own ((Below.refl _ _).alloc (Nat.le_refl _) _)) ⟨wo.heap.size, 0, none⟩ 1 1 [.string (s.extract fr s.size)] rfl rfl (news_str _ _ _) (by simp [Value.oneCell']) (by decide) (by unfold maxLen; omega) (by omega) (by simp; omega) (wo.heap.size + 1) (by simp) ?_; intro g' c' w4 hown hgrow hat hlt4; have HO4 := Lib.hid hown; have HG4 := Lib.hid hgrow; clear hown hgrow hat))
      go_ret
      have ho := HO4.out
      rw [← strsOf_put] at ho
      have h2 := ownT_of_owns ho
      refine ⟨g', k + 1, c', putF F k (s.extract fr s.size), rfl, h2.2.1, h2.1, h2.2.2, ?_, ?_⟩
      · rw [HL.out.cut, List.range_succ, List.map_append]
        congr 1
        · apply List.map_congr_left
          intro i hi
          have : ¬ i = k := by have := List.mem_range.1 hi; omega
          simp [putF, this]
        · rw [cutL_none c _ HN.out]
          have := HXX.out
          simp only [List.map_cons, List.map_nil, putF, if_true]
          rw [this]
      · refine (HL.out.b.alloc hszo _).grown HG4.out (by simp; omega) ?_
        intro q hq
        exact (HL.out.own.lt q hq).1

end My
end Go.Proofs.YtjmlekhgnbbjoaaGreatDoor

/- FnExactTripWrite: the exact laws' helpers on trips; the walk. -/
namespace Go.Proofs.YtjmlekhgnbbjoaaGreatDoor
open Go.RowKit Go.Deep
set_option linter.unusedVariables false
namespace My

/-- What toTrip leaves. -/
def ToTripPost (n : Nat) (f : ByteArray) (s : Int) (F : Nat → ByteArray) (w : World) (e : Ending) (w' : World) : Prop :=
  ∃ g, e = .returned (.agg #[.slice (some ⟨g, 0, none⟩) n n, .string f, .int .i64 s]) ∧ w.heap.size ≤ g ∧ OwnT w' g n F ∧ Below w.heap.size w w'

theorem cellB {w : World} {g : Nat} {cs : Array Value} {t : TypeId} {fr : Nat × Nat} (h : w.heap[g]? = some (.cells cs t fr)) (i : Nat) : w.cell? ⟨g, i, none⟩ = cs[i]? := by simp [World.cell?, h]
theorem frozenB {w : World} {g : Nat} {cs : Array Value} {t : TypeId} (h : w.heap[g]? = some (.cells cs t (0, 0))) (i : Nat) : w.frozen? ⟨g, i, none⟩ = false := by simp [World.frozen?, h]
theorem three_blocks (w : World) (x y z : Obj) : (((w.alloc x).alloc y).alloc z).heap[w.heap.size]? = some x ∧ (((w.alloc x).alloc y).alloc z).heap[w.heap.size + 1]? = some y ∧ (((w.alloc x).alloc y).alloc z).heap[w.heap.size + 1 + 1]? = some z ∧ (((w.alloc x).alloc y).alloc z).heap.size = w.heap.size + 3 := by
  refine ⟨?_, ?_, ?_, ?_⟩
  · rw [blk_alloc_lt _ _ _ (by simp; omega), blk_alloc_lt _ _ _ (by simp), blk_alloc_new]
  · have h1 : (w.alloc x).heap.size = w.heap.size + 1 := by simp
    rw [blk_alloc_lt _ _ _ (by simp), ← h1, blk_alloc_new]
  · have h1 : ((w.alloc x).alloc y).heap.size = w.heap.size + 1 + 1 := by simp
    rw [← h1, blk_alloc_new]
  · simp

/-- What szTrip leaves. -/
def SzTPost (left : Int) (n : Nat) (f : ByteArray) (F : Nat → ByteArray) (w : World) (e : Ending) (w' : World) : Prop :=
  ∃ r : Int, e = .returned (.int .i64 r) ∧ (0 ≤ r → r = left - n - sumZ F n - f.size) ∧ Below w.heap.size w w'

end My
end Go.Proofs.YtjmlekhgnbbjoaaGreatDoor

/- FnWireText: the walk. -/
namespace Go.Proofs.YtjmlekhgnbbjoaaGreatDoor
open Go.RowKit Go.Deep
set_option linter.unusedVariables false
namespace My

set_option maxHeartbeats 1000000 in
theorem wsWords_same (a a' : Option Addr) (n cap cap' : Nat) (F : Nat → ByteArray) (w : World) (h : InS w a n F) (h' : InS w a' n F) (hn : n ≤ 1048576) (hc : n ≤ cap) (hc' : n ≤ cap') :
    Calls Tryz.prog 18 #[.slice a n cap, .slice a' n cap'] w fun e w' => e = .returned (.bool true) ∧ ∃ z, w' = w.drewN z := by
  have H := Lib.hid h
  have H' := Lib.hid h'
  clear h h'
  go_enter Tryz.func18, Tryz.ntmps18
  go_wp2_with fail
  go_loopw [5] (fun i w' => ∃ k z : Nat, k ≤ n ∧ i = .int .i64 k ∧ w' = w.drewN z) (fun i _ => n - (intOf i).toNat)
  case atStart => exact ⟨0, 0, Nat.zero_le _, rfl, rfl⟩
  case round =>
    obtain ⟨k, z, hk, rfl, rfl⟩ := hrel
    by_cases hlt : k < n
    · obtain ⟨b, off, rfl, hi⟩ : ∃ b off, a = some ⟨b, off, none⟩ ∧ StrsAt w b off n F := by
        rcases H.out with h0 | h0
        · omega
        · exact h0
      obtain ⟨b', off', rfl, hi'⟩ : ∃ b off, a' = some ⟨b, off, none⟩ ∧ StrsAt w b off n F := by
        rcases H'.out with h0 | h0
        · omega
        · exact h0
      have cf := hi.c k hlt
      have cf' := hi'.c k hlt
      have x1 : (k : Int) < (n : Int) := by omega
      clear hi hi'
      go_wp2_with fail
      go_quiet (fail)
      go_wp2_with fail
      go_roundw
      case rel => exact ⟨k + 1, _, by omega, by go_num, rfl⟩
      case measure => simp [intOf]; omega
    · go_wp2_with fail
      go_ret
      exact ⟨rfl, z, rfl⟩

theorem putL_sum (F : Nat → ByteArray) : ∀ n, sumZ F n ≤ (putL F n).length
  | 0 => Nat.le_refl _
  | n + 1 => by
    have := putL_sum F n
    have e : (F n).data.toList.length = (F n).size := by simp
    simp only [sumZ, putL, word1, List.length_append, List.length_cons, List.length_nil]
    omega
theorem IsW.put {T : List UInt8} {F : Nat → ByteArray} {n : Nat} (h : IsW T F n) : wpT F n = T := by
  obtain ⟨rfl, h1, h2⟩ := h
  unfold wpT
  rw [if_pos ⟨h1, h2⟩]
theorem put_law (F : Nat → ByteArray) (n : Nat) : (0 < n ∧ wpT F n = []) ∨ IsW (wpT F n) F n := by
  by_cases h : wpT F n = []
  · rcases Nat.eq_zero_or_pos n with h0 | h0
    · refine Or.inr ?_
      subst h0
      simp [wpT, IsW, putL]
    · exact Or.inl ⟨h0, h⟩
  · refine Or.inr ?_
    unfold wpT at h ⊢
    split at h
    · rename_i hc
      rw [if_pos hc]
      exact ⟨rfl, hc.1, hc.2⟩
    · exact absurd rfl h
theorem put_isW {F : Nat → ByteArray} {n : Nat} (h : n = 0 ∨ wpT F n ≠ []) : IsW (wpT F n) F n := by
  rcases h with rfl | h
  · unfold wpT
    simp [IsW, putL]
  · unfold wpT at h ⊢
    split at h
    · rename_i hc
      rw [if_pos hc]
      exact ⟨rfl, hc.1, hc.2⟩
    · exact absurd rfl h

end My
end Go.Proofs.YtjmlekhgnbbjoaaGreatDoor

/- How the laws' arguments are opened: what a value that came in is in memory. -/
namespace Go.Proofs.YtjmlekhgnbbjoaaGreatDoor
open Go.RowKit Go.Deep
set_option linter.unusedVariables false
namespace My

theorem addr_addB (b off n : Nat) : Addr.add ⟨b, off, none⟩ n = ⟨b, off + n, none⟩ := by
  by_cases h : n = 0 <;> simp [Addr.add, h]

/-- Bytes that came in. -/
theorem openBytes {H : Type} {enc : TypeId × Value → H} {W : World} {a : Option Addr} {len cap : Nat} {d : DataW H} {p : List MemPlace}
    (h : DataW.Trod enc Tryz.prog W 0 (fun _ => true) true 22 (.slice a len cap) d p) : ∃ z : Unit, BytesIn W a len cap := by
  refine ⟨(), ?_⟩
  obtain ⟨fuel, hf⟩ := h
  rcases Go.ChangeShapes.open_ints Tryz.underlying22 Tryz.underlying5 (by kernel_rfl) hf with ⟨hcs, _⟩ | ⟨x, l, c, zs, hcs, _, hl, hm, hz, _, hcell, hwz⟩
  · simp [Value.cells] at hcs
    obtain ⟨rfl, rfl, rfl⟩ := hcs
    exact ⟨Nat.le_refl _, by simp [maxLen], Or.inl rfl⟩
  · simp [Value.cells] at hcs
    obtain ⟨rfl, rfl, rfl⟩ := hcs
    refine ⟨hl, hm, ?_⟩
    by_cases h0 : len = 0
    · exact Or.inl h0
    · have hz' : zs.length = cap := by simpa using hz
      obtain ⟨b, off, spot⟩ := x
      have hspot : spot = none := by simpa [Addr.add] using World.cell?_spot (hcell 0 (by omega))
      subst hspot
      have hb : b < W.heap.size := World.block_lt_of_cell? W _ (hcell 0 (by omega))
      refine Or.inr ⟨b, off, rfl, hb, fun j hj => ⟨zs.getD j 0, ?_, ?_⟩⟩
      · have := hcell j (by omega)
        rwa [addr_addB] at this
      · have hw := hwz (zs.getD j 0) (by
          rw [List.getD_eq_getElem?_getD, List.getElem?_eq_getElem (by omega)]
          exact List.getElem_mem _)
        simpa [Lit.wf, IntKind.min, IntKind.max, IntKind.signed, IntKind.bits] using hw

end My
end Go.Proofs.YtjmlekhgnbbjoaaGreatDoor
