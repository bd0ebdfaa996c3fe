/- Words that are read again: plain facts. -/
import Derived.Test.YtopijgkmgpkmnaaDoorNum
import Derived.Lib.IndexMore
namespace Go.Proofs.YtopijgkmgpkmnaaDoor
open Go.RowKit Go.Deep
set_option linter.unusedVariables false
namespace My

theorem putL_tail (F : Nat → ByteArray) (k : Nat) : ∀ m, putL F (k + m) = putL F k ++ putL (fun i => F (k + i)) m
  | 0 => by simp [putL]
  | m + 1 => by
    rw [← Nat.add_assoc]
    simp only [putL]
    rw [putL_tail F k m, List.append_assoc]
theorem putL_cons (F : Nat → ByteArray) (m : Nat) : putL F (m + 1) = word1 (F 0) ++ putL (fun i => F (i + 1)) m := by
  have := putL_tail F 1 m
  rw [Nat.add_comm 1 m] at this
  rw [this]
  simp only [putL, List.nil_append]
  congr 1
  congr 1
  funext i
  rw [Nat.add_comm]
theorem digit_ne {u : Nat} {c : UInt8} (h : c ∈ Lib.decDigits u) : c ≠ 58 := by
  have := dec_all u c h
  unfold isDig at this
  rintro rfl
  have e : (58 : UInt8).toNat = 58 := rfl
  omega
theorem cut_first : ∀ (a b r r' : List UInt8), (∀ c ∈ a, c ≠ 58) → (∀ c ∈ b, c ≠ 58) → a ++ 58 :: r = b ++ 58 :: r' → a = b ∧ r = r'
  | [], [], r, r', _, _, h => by simpa using h
  | [], y :: b, r, r', _, hb, h => by
    simp only [List.nil_append, List.cons_append, List.cons.injEq] at h
    exact absurd h.1.symm (hb y (by simp))
  | x :: a, [], r, r', ha, _, h => by
    simp only [List.nil_append, List.cons_append, List.cons.injEq] at h
    exact absurd h.1 (ha x (by simp))
  | x :: a, y :: b, r, r', ha, hb, h => by
    simp only [List.cons_append, List.cons.injEq] at h
    obtain ⟨e1, e2⟩ := cut_first a b r r' (fun c hc => ha c (by simp [hc])) (fun c hc => hb c (by simp [hc])) h.2
    exact ⟨by rw [h.1, e1], e2⟩
theorem word_shape (g : ByteArray) (r : List UInt8) : word1 g ++ r = Lib.decDigits g.size ++ 58 :: (g.data.toList ++ 44 :: r) := by simp [word1]
theorem byte_eq {a b : ByteArray} (h : a.data.toList = b.data.toList) : a = b := by rw [← data_txt a, h, data_txt]
theorem word_cut {g g' : ByteArray} {r r' : List UInt8} (h : word1 g ++ r = word1 g' ++ r') : g = g' ∧ r = r' := by
  rw [word_shape, word_shape] at h
  obtain ⟨e1, e2⟩ := cut_first _ _ _ _ (fun c hc => digit_ne hc) (fun c hc => digit_ne hc) h
  have e3 := dec_inj e1
  have h1 := List.append_inj e2 (by simpa using e3)
  exact ⟨byte_eq h1.1, by simpa using h1.2⟩
theorem word_ne (g : ByteArray) (r : List UInt8) : word1 g ++ r ≠ [] := by rw [word_shape]; simp
theorem putL_prefix : ∀ (k : Nat) (F G : Nat → ByteArray) (m : Nat) (r : List UInt8), putL F k ++ r = putL G m → k ≤ m ∧ (∀ i, i < k → F i = G i) ∧ r = putL (fun i => G (k + i)) (m - k)
  | 0, F, G, m, r, h => by
    refine ⟨Nat.zero_le _, fun i hi => by omega, ?_⟩
    simpa [putL] using h
  | k + 1, F, G, m, r, h => by
    rw [putL_cons, List.append_assoc] at h
    cases m with
    | zero => exact absurd h (word_ne _ _)
    | succ m =>
      rw [putL_cons] at h
      obtain ⟨e1, e2⟩ := word_cut h
      obtain ⟨h1, h2, h3⟩ := putL_prefix k _ _ m r e2
      refine ⟨by omega, fun i hi => ?_, ?_⟩
      · cases i with
        | zero => exact e1
        | succ i => exact h2 i (by omega)
      · rw [h3]
        rw [show m + 1 - (k + 1) = m - k from by omega]
        congr 1
        funext i
        congr 1
        omega
theorem putL_inj {F G : Nat → ByteArray} {k m : Nat} (h : putL F k = putL G m) : k = m ∧ ∀ i, i < k → F i = G i := by
  obtain ⟨h1, h2, h3⟩ := putL_prefix k F G m [] (by simpa using h)
  refine ⟨?_, h2⟩
  rcases Nat.lt_or_ge k m with hk | hk
  · have : m - k = (m - k - 1) + 1 := by omega
    rw [this, putL_cons] at h3
    exact absurd h3.symm (word_ne _ _)
  · omega

def IsW (T : List UInt8) (F : Nat → ByteArray) (n : Nat) : Prop := T = putL F n ∧ n ≤ 40 ∧ T.length ≤ 6000
theorem IsW.inj {T : List UInt8} {F G : Nat → ByteArray} {k m : Nat} (h : IsW T F k) (h' : IsW T G m) : k = m ∧ ∀ i, i < k → F i = G i := putL_inj (h.1.symm.trans h'.1)

theorem idx_colon : ∀ (a b : List UInt8), (∀ c ∈ a, c ≠ 58) → Lib.index (a ++ 58 :: b) [58] = a.length
  | [], b, _ => by simp [Lib.index]
  | x :: a, b, h => by
    have hx : x ≠ 58 := h x (by simp)
    have ih := idx_colon a b (fun c hc => h c (by simp [hc]))
    simp only [List.cons_append, Lib.index]
    have : ([58] : List UInt8).isPrefixOf (x :: (a ++ 58 :: b)) = false := by
      simp [List.isPrefixOf, Ne.symm hx]
    rw [this, ih]
    simp
theorem cut_colon (a b : List UInt8) (h : ∀ c ∈ a, c ≠ 58) : Lib.cut (a ++ 58 :: b) [58] = (a, b, true) := by
  unfold Lib.cut
  rw [idx_colon a b h, if_pos (by omega)]
  simp
theorem cut_found {R A B : List UInt8} (h : Lib.cut R [58] = (A, B, true)) : R = A ++ 58 :: B := by
  unfold Lib.cut at h
  split at h
  · rename_i hi
    rcases Lib.index_spec R [58] with ⟨e, _⟩ | ⟨i, e, hl, ho, _⟩
    · omega
    · rw [e] at h
      simp only [Int.toNat_natCast, List.length_singleton, Prod.mk.injEq, and_true] at h
      obtain ⟨rfl, rfl⟩ := h
      unfold Lib.occAt at ho
      have hd : R.drop i = 58 :: R.drop (i + 1) := by
        cases hx : R.drop i with
        | nil => rw [hx] at ho; simp [List.isPrefixOf] at ho
        | cons x l =>
          rw [hx] at ho
          simp [List.isPrefixOf] at ho
          subst ho
          congr 1
          rw [← List.tail_drop, hx]
          rfl
      rw [← hd, List.take_append_drop]
  · simp at h

/-- What holds of the words that were read, and of what is left. -/
structure Inv (T : List UInt8) (k : Nat) (F : Nat → ByteArray) (R : List UInt8) : Prop where
  sz : k + sumZ F k + R.length ≤ T.length
  all : ∀ G m, T = putL G m → k ≤ m ∧ (∀ i, i < k → F i = G i) ∧ R = putL (fun i => G (k + i)) (m - k)
theorem Inv.start (T : List UInt8) (F : Nat → ByteArray) : Inv T 0 F T := by
  refine ⟨by simp [sumZ], fun G m h => ⟨Nat.zero_le _, fun i hi => by omega, ?_⟩⟩
  simpa using h
theorem Inv.head {T R : List UInt8} {k m : Nat} {F G : Nat → ByteArray} (h : Inv T k F R) (hR : R ≠ []) (hT : T = putL G m) :
    k < m ∧ R = word1 (G k) ++ putL (fun i => G (k + 1 + i)) (m - (k + 1)) := by
  obtain ⟨h1, h2, h3⟩ := h.all G m hT
  have hlt : k < m := by
    rcases Nat.lt_or_ge k m with hk | hk
    · exact hk
    · rw [show m - k = 0 from by omega] at h3
      exact absurd h3 hR
  refine ⟨hlt, ?_⟩
  rw [h3, show m - k = (m - (k + 1)) + 1 from by omega, putL_cons]
  congr 2
  funext i
  congr 1
  omega
theorem word_len {R : List UInt8} {g : ByteArray} {r : List UInt8} (h : R = word1 g ++ r) : g.size + 2 ≤ R.length := by
  rw [h, word_shape]
  have := dec_ne g.size
  have : 1 ≤ (Lib.decDigits g.size).length := by
    cases hh : Lib.decDigits g.size with
    | nil => exact absurd hh this
    | cons a b => simp
  have e : g.data.toList.length = g.size := by simp
  simp only [List.length_append, List.length_cons]
  omega
theorem Inv.told {T R A B : List UInt8} {k m : Nat} {F G : Nat → ByteArray} {f b : Bool} {v : Int} (h : Inv T k F R) (hR : R ≠ []) (hT : T = putL G m) (hl : T.length ≤ 1048576) (hc : Lib.cut R [58] = (A, B, f))
    (hn : ∀ u : Int, -9223372036854775808 ≤ u → u ≤ 9223372036854775807 → A = Lib.itoa u → v = u ∧ b = true) :
    f = true ∧ b = true ∧ v = ((G k).size : Int) ∧ B = (G k).data.toList ++ 44 :: putL (fun i => G (k + 1 + i)) (m - (k + 1)) := by
  obtain ⟨h1, h2⟩ := h.head hR hT
  have hlen := word_len h2
  have hs := h.sz
  rw [h2, word_shape, cut_colon _ _ (fun c hc => digit_ne hc)] at hc
  simp only [Prod.mk.injEq] at hc
  obtain ⟨rfl, rfl, rfl⟩ := hc
  obtain ⟨e1, e2⟩ := hn ((G k).size : Int) (by omega) (by omega) (by rw [Lib.itoa_nonneg])
  exact ⟨rfl, e2, e1, rfl⟩
theorem Inv.no {T R A B : List UInt8} {k : Nat} {F : Nat → ByteArray} {f b : Bool} {v : Int} (h : Inv T k F R) (hR : R ≠ []) (hl : T.length ≤ 1048576) (hc : Lib.cut R [58] = (A, B, f))
    (hn : ∀ u : Int, -9223372036854775808 ≤ u → u ≤ 9223372036854775807 → A = Lib.itoa u → v = u ∧ b = true) (hbad : f = false ∨ b = false ∨ v < 0 ∨ (B.length : Int) ≤ v) : ∀ G m, ¬ IsW T G m := by
  rintro G m ⟨hT, _, _⟩
  obtain ⟨e1, e2, e3, e4⟩ := h.told hR hT hl hc hn
  rcases hbad with hb | hb | hb | hb
  · rw [e1] at hb; cases hb
  · rw [e2] at hb; cases hb
  · omega
  · have e : (G k).data.toList.length = (G k).size := by simp
    rw [e4] at hb
    simp only [List.length_append, List.length_cons] at hb
    omega
def putF (F : Nat → ByteArray) (k : Nat) (s : ByteArray) (i : Nat) : ByteArray := if i = k then s else F i
theorem strsOf_put (F : Nat → ByteArray) (k : Nat) (s : ByteArray) : strsOf (putF F k s) (k + 1) = strsOf F k ++ [.string s] := by
  unfold strsOf
  rw [List.range_succ, List.map_append]
  congr 1
  · apply List.map_congr_left
    intro i hi
    have : ¬ i = k := by have := List.mem_range.1 hi; omega
    simp [putF, this]
  · simp [putF]
theorem sumZ_put (F : Nat → ByteArray) (k : Nat) (s : ByteArray) : sumZ (putF F k s) (k + 1) = sumZ F k + s.size := by
  simp only [sumZ]
  have e : sumZ (putF F k s) k = sumZ F k := by
    refine sumZ_congr k fun i hi => ?_
    have : ¬ i = k := by omega
    simp [putF, this]
  rw [e]
  simp [putF]
theorem Inv.step {T R A B : List UInt8} {k : Nat} {F : Nat → ByteArray} {b : Bool} {v : Nat} (h : Inv T k F R) (hR : R ≠ []) (hl : T.length ≤ 1048576) (hc : Lib.cut R [58] = (A, B, true))
    (hn : ∀ u : Int, -9223372036854775808 ≤ u → u ≤ 9223372036854775807 → A = Lib.itoa u → (v : Int) = u ∧ b = true) (hv : v < B.length) : Inv T (k + 1) (putF F k (txt (B.take v))) (B.drop (v + 1)) ∧ (B.drop (v + 1)).length < R.length := by
  have hf := cut_found hc
  have hlen : R.length = A.length + B.length + 1 := by rw [hf]; simp; omega
  refine ⟨⟨?_, ?_⟩, by rw [List.length_drop]; omega⟩
  · rw [sumZ_put, txt_size, List.length_take, List.length_drop]
    have := h.sz
    omega
  · intro G m hT
    obtain ⟨e1, e2, e3, e4⟩ := h.told hR hT hl hc hn
    obtain ⟨h1, _⟩ := h.head hR hT
    have e5 : v = (G k).data.toList.length := by
      have : (G k).data.toList.length = (G k).size := by simp
      omega
    refine ⟨h1, fun i hi => ?_, ?_⟩
    · by_cases hik : i = k
      · subst hik
        simp only [putF, if_true]
        rw [e4, e5, List.take_left', data_txt]
        rfl
      · simp only [putF, if_neg hik]
        exact (h.all G m hT).2.1 i (by omega)
    · rw [e4, e5]
      simp [List.drop_append]
theorem Inv.last_no {T : List UInt8} {k : Nat} {F : Nat → ByteArray} (h : Inv T k F []) (hne : wpT F k ≠ T) : ∀ G m, ¬ IsW T G m := by
  rintro G m ⟨hT, hm, hl⟩
  obtain ⟨h1, h2, h3⟩ := h.all G m hT
  have hkm : k = m := by
    rcases Nat.lt_or_ge k m with hk | hk
    · rw [show m - k = (m - k - 1) + 1 from by omega, putL_cons] at h3
      exact absurd h3.symm (word_ne _ _)
    · omega
  subst hkm
  have e : putL F k = T := by rw [hT]; exact putL_congr k h2
  apply hne
  unfold wpT
  rw [e, if_pos ⟨hm, hl⟩]
theorem Inv.last {T : List UInt8} {k : Nat} {F : Nat → ByteArray} (h : Inv T k F []) (he : wpT F k = T) : IsW T F k := by
  unfold wpT at he
  split at he
  · rename_i hc
    exact ⟨he.symm, hc.1, by rw [← he]; exact hc.2⟩
  · have := h.sz
    subst he
    simp at this
    obtain ⟨rfl, _⟩ := this
    exact ⟨rfl, by omega, by simp⟩
end My
end Go.Proofs.YtopijgkmgpkmnaaDoor
