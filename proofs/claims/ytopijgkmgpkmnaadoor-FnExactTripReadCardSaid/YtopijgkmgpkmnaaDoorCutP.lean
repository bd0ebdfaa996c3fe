/- Texts that are cut, trips that are read: plain facts. -/
import Derived.Test.YtopijgkmgpkmnaaDoorWireP
import Derived.Test.YtopijgkmgpkmnaaDoorTripW
namespace Go.Proofs.YtopijgkmgpkmnaaDoor
open Go.RowKit Go.Deep
set_option linter.unusedVariables false
namespace My

def cutL (c : UInt8) : List UInt8 → List (List UInt8)
  | [] => [[]]
  | x :: l => if x = c then [] :: cutL c l else (match cutL c l with | [] => [[x]] | p :: r => (x :: p) :: r)
theorem cutL_ne (c : UInt8) : ∀ l, cutL c l ≠ []
  | [] => by simp [cutL]
  | x :: l => by
    simp only [cutL]
    split
    · simp
    · split <;> simp
theorem cutL_app (c : UInt8) : ∀ (a b : List UInt8), (∀ x ∈ a, x ≠ c) → cutL c (a ++ c :: b) = a :: cutL c b
  | [], b, _ => by simp [cutL]
  | x :: a, b, h => by
    have hx : ¬ x = c := h x (by simp)
    have ih := cutL_app c a b (fun y hy => h y (by simp [hy]))
    simp only [List.cons_append, cutL, if_neg hx, ih]
theorem cutL_none (c : UInt8) : ∀ (a : List UInt8), (∀ x ∈ a, x ≠ c) → cutL c a = [a]
  | [], _ => rfl
  | x :: a, h => by
    have hx : ¬ x = c := h x (by simp)
    have ih := cutL_none c a (fun y hy => h y (by simp [hy]))
    simp only [cutL, if_neg hx, ih]
theorem cutL_bd (c : UInt8) : ∀ (l : List UInt8), ∀ p ∈ cutL c l, p.length + (cutL c l).length ≤ l.length + 1
  | [], p, hp => by
    simp [cutL] at hp ⊢
    subst hp
    simp
  | x :: l, p, hp => by
    have ih := cutL_bd c l
    simp only [cutL] at hp ⊢
    split at hp
    · rename_i hx
      rw [if_pos hx]
      rcases List.mem_cons.1 hp with rfl | hp
      · cases hl : cutL c l with
        | nil => exact absurd hl (cutL_ne c l)
        | cons q r =>
          have := ih q (by rw [hl]; simp)
          rw [hl] at this
          simp only [List.length_cons, List.length_nil] at *
          omega
      · have := ih p hp
        simp only [List.length_cons] at *
        omega
    · rename_i hx
      rw [if_neg hx]
      cases hl : cutL c l with
      | nil => exact absurd hl (cutL_ne c l)
      | cons q r =>
        rw [hl] at hp ih
        simp only at hp ⊢
        rcases List.mem_cons.1 hp with rfl | hp
        · have := ih q (by simp)
          simp only [List.length_cons] at *
          omega
        · have := ih p (by simp [hp])
          simp only [List.length_cons] at *
          omega
theorem idx_none (c : UInt8) : ∀ (s : List UInt8), Lib.index s [c] = -1 → ∀ x ∈ s, x ≠ c
  | [], _, x, hx => by cases hx
  | y :: l, h, x, hx => by
    simp only [Lib.index] at h
    by_cases hy : y = c
    · subst hy
      simp [List.isPrefixOf] at h
    · have hp : ([c] : List UInt8).isPrefixOf (y :: l) = false := by simp [List.isPrefixOf, Ne.symm hy]
      rw [hp] at h
      have hge := Lib.index_ge l [c]
      have hm : Lib.index l [c] = -1 := by
        by_cases e : Lib.index l [c] = -1
        · exact e
        · simp [e] at h
          omega
      rcases List.mem_cons.1 hx with rfl | hx
      · exact hy
      · exact idx_none c l hm x hx
theorem idx_some (c : UInt8) : ∀ (s : List UInt8) (i : Nat), Lib.index s [c] = i → s = s.take i ++ c :: s.drop (i + 1) ∧ ∀ x ∈ s.take i, x ≠ c
  | [], i, h => by simp [Lib.index] at h
  | y :: l, i, h => by
    simp only [Lib.index] at h
    by_cases hy : y = c
    · subst hy
      simp [List.isPrefixOf] at h
      have : i = 0 := by omega
      subst this
      simp
    · have hp : ([c] : List UInt8).isPrefixOf (y :: l) = false := by simp [List.isPrefixOf, Ne.symm hy]
      rw [hp] at h
      have hge := Lib.index_ge l [c]
      by_cases e : Lib.index l [c] = -1
      · rw [e] at h
        simp at h
        try omega
      · simp [e] at h
        obtain ⟨j, rfl⟩ : ∃ j, i = j + 1 := ⟨i - 1, by omega⟩
        obtain ⟨h1, h2⟩ := idx_some c l j (by omega)
        refine ⟨?_, ?_⟩
        · simp only [List.take_succ_cons, List.drop_succ_cons, List.cons_append]
          rw [← h1]
        · intro x hx
          simp only [List.take_succ_cons] at hx
          rcases List.mem_cons.1 hx with rfl | hx
          · exact hy
          · exact h2 x hx
theorem splitB_cut (c : UInt8) : ∀ (k : Nat) (s : ByteArray), s.size ≤ k → (Lib.splitB (txt [c]) 0 (Lib.countB s (txt [c])) s).map (·.data.toList) = cutL c s.data.toList := by
  intro k
  induction k with
  | zero =>
    intro s hs
    have h1 : s.data.toList.length = s.size := by simp
    have e : s.data.toList = [] := List.eq_nil_of_length_eq_zero (by omega)
    have hi : Lib.indexB s (txt [c]) = -1 := by
      unfold Lib.indexB
      rw [txt_data, e]
      rfl
    rw [Lib.splitB_miss _ _ _ _ hi, e]
    simp [cutL, e]
  | succ k ih =>
    intro s hs
    have hone : (txt [c]).size = 1 := one_size c
    rcases Lib.indexB_cases s (txt [c]) with hi | ⟨i, hi, hroom⟩
    · rw [Lib.splitB_miss _ _ _ _ hi]
      unfold Lib.indexB at hi
      rw [txt_data] at hi
      rw [cutL_none c _ (idx_none c _ hi)]
      rfl
    · rw [Lib.countB_hit s (txt [c]) i (by omega) hi, Nat.add_comm 1, Lib.splitB_hit _ _ _ _ _ hi]
      unfold Lib.indexB at hi
      rw [txt_data] at hi
      obtain ⟨h1, h2⟩ := idx_some c _ i hi
      have hx : (s.extract (i + (txt [c]).size) s.size).data.toList = s.data.toList.drop (i + 1) := by
        rw [Lib.extract_data, hone, List.take_of_length_le (by simp)]
      have hp : (s.extract 0 (i + 0)).data.toList = s.data.toList.take i := by
        rw [Lib.extract_data]
        simp
      rw [List.map_cons, ih _ (by simp; omega), hx, hp]
      conv => rhs; rw [h1]
      rw [cutL_app c _ _ h2]

/-- T is a trip's text. -/
def IsT (T : List UInt8) (G : Nat → ByteArray) (m : Nat) (f : ByteArray) (s : Int) : Prop := tripB G m f s = true ∧ tripL G m f s = T
theorem nmS_let {x : ByteArray} (h : nmS x = true) : ∀ c ∈ x.data.toList, c ≠ 45 ∧ c ≠ 47 := by
  intro c hc
  unfold nmS nameB at h
  simp only [Bool.and_eq_true, List.all_eq_true] at h
  have := h.1 c hc
  unfold letB at this
  simp at this
  refine ⟨?_, ?_⟩ <;> rintro rfl <;> revert this <;> decide
theorem itoa_let {s : Int} (h0 : 1 ≤ s) (h1 : s ≤ 4) : ∀ c ∈ Lib.itoa s, c ≠ 47 := by
  intro c hc
  have e2 : Lib.itoa s = Lib.decDigits s.toNat := by unfold Lib.itoa; rw [if_neg (by omega)]
  rw [e2] at hc
  have := dec_all _ c hc
  unfold isDig at this
  rintro rfl
  have e : (47 : UInt8).toNat = 47 := rfl
  omega
theorem joinK_cut {G : Nat → ByteArray} {m : Nat} (h : 1 ≤ m ∧ m ≤ 3) (hn : ∀ k, k < m → nmS (G k) = true) :
    cutL 45 (joinK G m) = (List.range m).map (fun i => (G i).data.toList) ∧ ∀ c ∈ joinK G m, c ≠ 47 := by
  have : m = 1 ∨ m = 2 ∨ m = 3 := by omega
  rcases this with rfl | rfl | rfl
  · have n0 := nmS_let (hn 0 (by omega))
    simp only [joinK, if_true, List.nil_append]
    refine ⟨?_, fun c hc => (n0 c hc).2⟩
    rw [cutL_none 45 _ (fun c hc => (n0 c hc).1)]
    simp [List.range_succ]
  · have n0 := nmS_let (hn 0 (by omega))
    have n1 := nmS_let (hn 1 (by omega))
    simp only [joinK, if_true, List.nil_append, if_neg (show ¬ 0 + 1 = 0 by omega), List.append_assoc, List.cons_append]
    refine ⟨?_, ?_⟩
    · rw [cutL_app 45 _ _ (fun c hc => (n0 c hc).1), cutL_none 45 _ (fun c hc => (n1 c hc).1)]
      simp [List.range_succ]
    · intro c hc
      simp only [List.mem_append, List.mem_cons] at hc
      rcases hc with hc | rfl | hc
      · exact (n0 c hc).2
      · decide
      · exact (n1 c hc).2
  · have n0 := nmS_let (hn 0 (by omega))
    have n1 := nmS_let (hn 1 (by omega))
    have n2 := nmS_let (hn 2 (by omega))
    simp only [joinK, if_true, List.nil_append, if_neg (show ¬ 0 + 1 = 0 by omega), if_neg (show ¬ 0 + 1 + 1 = 0 by omega), List.append_assoc, List.cons_append]
    refine ⟨?_, ?_⟩
    · rw [cutL_app 45 _ _ (fun c hc => (n0 c hc).1), cutL_app 45 _ _ (fun c hc => (n1 c hc).1), cutL_none 45 _ (fun c hc => (n2 c hc).1)]
      simp [List.range_succ]
    · intro c hc
      simp only [List.mem_append, List.mem_cons] at hc
      rcases hc with hc | rfl | hc | rfl | hc
      · exact (n0 c hc).2
      · decide
      · exact (n1 c hc).2
      · decide
      · exact (n2 c hc).2
theorem trip_told {T : List UInt8} {G : Nat → ByteArray} {m : Nat} {f : ByteArray} {s : Int} (h : IsT T G m f s) :
    cutL 47 T = [joinK G m, f.data.toList, Lib.itoa s] ∧ cutL 45 (joinK G m) = (List.range m).map (fun i => (G i).data.toList) ∧ 1 ≤ s ∧ s ≤ 4 := by
  obtain ⟨hb, rfl⟩ := h
  obtain ⟨h1, _, h3, h4, h5⟩ := trip_parts hb
  obtain ⟨k1, k2⟩ := joinK_cut h3 h1
  refine ⟨?_, k1, h5.1, h5.2⟩
  unfold tripL
  simp only [List.append_assoc, List.cons_append, List.nil_append]
  rw [cutL_app 47 _ _ k2, cutL_app 47 _ _ (fun c hc => (nmS_let h4 c hc).2), cutL_none 47 _ (itoa_let h5.1 h5.2)]
theorem itoa_inj4 {s t : Int} (h0 : 1 ≤ s) (h1 : s ≤ 4) (g0 : 1 ≤ t) (g1 : t ≤ 4) (h : Lib.itoa s = Lib.itoa t) : s = t := by
  have e1 := atoi_itoa s (by omega) (by omega)
  have e2 := atoi_itoa t (by omega) (by omega)
  rw [h, e2] at e1
  injection e1 with e1
  exact e1.symm
theorem IsT.inj {T : List UInt8} {G G' : Nat → ByteArray} {m m' : Nat} {f f' : ByteArray} {s s' : Int} (h : IsT T G m f s) (h' : IsT T G' m' f' s') : m = m' ∧ (∀ i, i < m → G i = G' i) ∧ f = f' ∧ s = s' := by
  obtain ⟨a1, a2, a3, a4⟩ := trip_told h
  obtain ⟨b1, b2, b3, b4⟩ := trip_told h'
  rw [a1] at b1
  simp only [List.cons.injEq, and_true] at b1
  obtain ⟨e1, e2, e3⟩ := b1
  rw [← e1, a2] at b2
  have hm : m = m' := by simpa using congrArg List.length b2
  subst hm
  refine ⟨rfl, fun i hi => ?_, byte_eq e2, itoa_inj4 a3 a4 b3 b4 e3⟩
  have := congrArg (·[i]?) b2
  simp [hi] at this
  exact byte_eq (by simp [this])
theorem tripT_is {T : List UInt8} {G : Nat → ByteArray} {m : Nat} {f : ByteArray} {s : Int} (hT : T ≠ []) : tripT G m f s = T ↔ IsT T G m f s := by
  unfold tripT IsT
  constructor
  · intro h
    split at h
    · rename_i hc
      exact ⟨hc, h⟩
    · exact absurd h.symm hT
  · rintro ⟨h1, h2⟩
    rw [if_pos h1, h2]
theorem cut_n {c : UInt8} {T : List UInt8} {n : Nat} {F : Nat → ByteArray} (h : cutL c T = (List.range n).map (fun i => (F i).data.toList)) (hT : T.length ≤ 1048575) : 1 ≤ n ∧ n ≤ 1048576 ∧ ∀ i, i < n → (F i).size ≤ T.length := by
  have hl : (cutL c T).length = n := by rw [h]; simp
  have hp : ∀ i, i < n → (F i).size + n ≤ T.length + 1 := by
    intro i hi
    have := cutL_bd c T ((F i).data.toList) (by rw [h]; exact List.mem_map.2 ⟨i, by simp [hi], rfl⟩)
    rw [hl] at this
    have e : (F i).data.toList.length = (F i).size := by simp
    omega
  have h1 : 1 ≤ n := by
    rcases Nat.eq_zero_or_pos n with h0 | h0
    · rw [h0] at hl
      exact absurd (List.eq_nil_of_length_eq_zero hl) (cutL_ne c T)
    · exact h0
  have := hp 0 (by omega)
  exact ⟨h1, by omega, fun i hi => by have := hp i hi; omega⟩
theorem joinK_congr {F G : Nat → ByteArray} : ∀ n, (∀ i, i < n → F i = G i) → joinK F n = joinK G n
  | 0, _ => rfl
  | n + 1, h => by
    simp only [joinK]
    rw [joinK_congr n (fun i hi => h i (by omega)), h n (by omega)]
theorem legsB_congr {F G : Nat → ByteArray} {n : Nat} (h : ∀ i, i < n → F i = G i) (hl : legsB F n = true) : legsB G n = true := by
  apply legsB_yes
  intro k hk
  have hk1 : legB F k = true := by
    have : ∀ k, k < n → legB F k = true := by simpa [legsB] using hl
    exact this k hk
  unfold legB at hk1 ⊢
  simp only [Bool.and_eq_true, decide_eq_true_eq] at hk1 ⊢
  refine ⟨by rw [← h k hk]; exact hk1.1, fun j hj => ?_⟩
  rw [← h j (by omega), ← h k hk]
  exact hk1.2 j hj
theorem IsT.congr {T : List UInt8} {F G : Nat → ByteArray} {m : Nat} {f : ByteArray} {s : Int} (h : IsT T G m f s) (e : ∀ i, i < m → G i = F i) : IsT T F m f s := by
  obtain ⟨h1, h2⟩ := h
  refine ⟨?_, ?_⟩
  · unfold tripB at h1 ⊢
    simp only [Bool.and_eq_true] at h1 ⊢
    exact ⟨⟨⟨legsB_congr e h1.1.1.1, h1.1.1.2⟩, h1.1.2⟩, h1.2⟩
  · rw [← h2]
    unfold tripL
    rw [joinK_congr m (fun i hi => (e i hi).symm)]
/-- What was read is the trip, if there is one. -/
theorem trip_read {T p0 p1 p2 : List UInt8} {F G : Nat → ByteArray} {n m : Nat} {f : ByteArray} {t : Int} (h3 : cutL 47 T = [p0, p1, p2]) (hc : cutL 45 p0 = (List.range n).map (fun i => (F i).data.toList)) (h : IsT T G m f t) :
    IsT T F n f t ∧ p1 = f.data.toList ∧ p2 = Lib.itoa t ∧ 1 ≤ t ∧ t ≤ 4 := by
  obtain ⟨a1, a2, a3, a4⟩ := trip_told h
  rw [a1] at h3
  simp only [List.cons.injEq, and_true] at h3
  obtain ⟨e1, e2, e3⟩ := h3
  rw [← e1, a2] at hc
  have hm : m = n := by simpa using congrArg List.length hc
  subst hm
  refine ⟨h.congr fun i hi => ?_, e2.symm, e3.symm, a3, a4⟩
  have := congrArg (·[i]?) hc
  simp [hi] at this
  exact byte_eq (by simp [this])
theorem cut_nil (c : UInt8) : (cutL c []).length = 1 := rfl
end My
end Go.Proofs.YtopijgkmgpkmnaaDoor
