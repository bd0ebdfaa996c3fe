/- The contracts of TiersOf: the reference's and the program's. -/
import Derived.Test.YtdoiklcaiafcpaaTieI
namespace Go.Proofs.Ytdoiklcaiafcpaa
open Go.RowKit
set_option linter.unusedVariables false
namespace My

/-- Up to where the price of place k holds; what it comes to; what all ahead of it come to. -/
def endI (n : Int) (ms : List (Int × Int)) (k : Nat) : Int := if k + 1 < ms.length ∧ mF ms (k + 1) < n then mF ms (k + 1) else n
def partI (n : Int) (ms : List (Int × Int)) (k : Nat) : Int := if mF ms k < endI n ms k then (endI n ms k - mF ms k) * mP ms k else 0
def sumI (n : Int) (ms : List (Int × Int)) : Nat → Int
  | 0 => 0
  | k + 1 => sumI n ms k + partI n ms k
def okT (n : Int) (ms : List (Int × Int)) (k : Nat) : Bool := decide (partI n ms k ≤ 1000000000000) && decide (sumI n ms (k + 1) ≤ 1000000000000)
def tierB (n : Int) (ms : List (Int × Int)) : Bool := (List.range ms.length).all (okT n ms)
def tierV (n : Int) (ms : List (Int × Int)) : Int := if tierB n ms then sumI n ms ms.length else 0

theorem prod_bd (x p : Int) (h0 : -1000000000 ≤ x) (h1 : x ≤ 1000000000000) (p0 : 0 ≤ p) (p1 : p ≤ 1000000) : -1000000000000000 ≤ x * p ∧ x * p ≤ 1000000000000000000 := by
  constructor
  · calc (-1000000000000000 : Int) = -1000000000 * 1000000 := by decide
      _ ≤ -1000000000 * p := Int.mul_le_mul_of_nonpos_left (by omega) p1
      _ ≤ x * p := Int.mul_le_mul_of_nonneg_right h0 p0
  · calc x * p ≤ 1000000000000 * p := Int.mul_le_mul_of_nonneg_right h1 p0
      _ ≤ 1000000000000 * 1000000 := Int.mul_le_mul_of_nonneg_left p1 (by omega)
      _ = 1000000000000000000 := by decide

theorem stepB_bd {ms : List (Int × Int)} {k : Nat} (h : stepB ms k = true) : 0 ≤ mF ms k ∧ mF ms k ≤ 1000000000 ∧ 0 ≤ mP ms k ∧ mP ms k ≤ 1000000 := by
  simp only [stepB, Bool.and_eq_true] at h
  have a := inB_true h.1.1
  have b := inB_true h.1.2
  omega
theorem marksB_step {ms : List (Int × Int)} (h : marksB ms = true) {k : Nat} (hk : k < ms.length) : stepB ms k = true := by
  simp only [marksB, Bool.and_eq_true, List.all_eq_true] at h
  exact h.1.1 k (by simpa using hk)
theorem mF_out {ms : List (Int × Int)} {k : Nat} (h : ms.length ≤ k) : mF ms k = 0 := by simp [mF, List.getElem?_eq_none h]
theorem mP_out {ms : List (Int × Int)} {k : Nat} (h : ms.length ≤ k) : mP ms k = 0 := by simp [mP, List.getElem?_eq_none h]
theorem marks_bd {ms : List (Int × Int)} (h : marksB ms = true) (k : Nat) : 0 ≤ mF ms k ∧ mF ms k ≤ 1000000000 ∧ 0 ≤ mP ms k ∧ mP ms k ≤ 1000000 := by
  by_cases hk : k < ms.length
  · exact stepB_bd (marksB_step h hk)
  · rw [mF_out (by omega), mP_out (by omega)]; omega
theorem partI_nn {ms : List (Int × Int)} (h : marksB ms = true) (n : Int) (k : Nat) : 0 ≤ partI n ms k := by
  unfold partI; split
  · exact Int.mul_nonneg (by omega) (marks_bd h k).2.2.1
  · omega
theorem sumI_nn {ms : List (Int × Int)} (h : marksB ms = true) (n : Int) (k : Nat) : 0 ≤ sumI n ms k := by
  induction k with
  | zero => exact Int.le_refl _
  | succ k ih => have := partI_nn h n k; simp only [sumI]; omega
theorem tierB_no {n : Int} {ms : List (Int × Int)} {k : Nat} (hk : k < ms.length) (h : okT n ms k = false) : tierB n ms = false := by
  unfold tierB; rw [List.all_eq_false]; exact ⟨k, by simpa using hk, by simp [h]⟩
theorem tierB_yes {n : Int} {ms : List (Int × Int)} (h : ∀ j, j < ms.length → okT n ms j = true) : tierB n ms = true := by
  simpa [tierB] using h
theorem ret_ii {a b c d : Int} (h : a = b) (k : c = d) : Ending.returned (.tuple #[.int .i64 a, .int .i64 c]) = .returned (.tuple #[.int .i64 b, .int .i64 d]) := by rw [h, k]
theorem quo_lt {x p : Int} (hp : 0 < p) (h : 1000000000000 / p < x) : 1000000000000 < x * p := (Int.ediv_lt_iff_lt_mul hp).1 h

def codeT (n : Int) (ms : List (Int × Int)) : Int := if tierB n ms then 0 else 2

theorem partI_is {n : Int} {ms : List (Int × Int)} {k : Nat} (y : Int)
    (h : (k + 1 < ms.length ∧ mF ms (k + 1) < n ∧ mF ms k < mF ms (k + 1) ∧ y = (mF ms (k + 1) - mF ms k) * mP ms k) ∨
      (k + 1 < ms.length ∧ mF ms (k + 1) < n ∧ mF ms (k + 1) ≤ mF ms k ∧ y = 0) ∨
      ((ms.length ≤ k + 1 ∨ n ≤ mF ms (k + 1)) ∧ mF ms k < n ∧ y = (n - mF ms k) * mP ms k) ∨
      ((ms.length ≤ k + 1 ∨ n ≤ mF ms (k + 1)) ∧ n ≤ mF ms k ∧ y = 0)) : partI n ms k = y := by
  rcases h with ⟨a, b, c, rfl⟩ | ⟨a, b, c, rfl⟩ | ⟨a, c, rfl⟩ | ⟨a, c, rfl⟩
  · have e : endI n ms k = mF ms (k + 1) := by unfold endI; rw [if_pos ⟨a, b⟩]
    unfold partI; rw [e, if_pos c]
  · have e : endI n ms k = mF ms (k + 1) := by unfold endI; rw [if_pos ⟨a, b⟩]
    unfold partI; rw [e, if_neg (by omega)]
  · have e : endI n ms k = n := by unfold endI; rw [if_neg (by omega)]
    unfold partI; rw [e, if_pos c]
  · have e : endI n ms k = n := by unfold endI; rw [if_neg (by omega)]
    unfold partI; rw [e, if_neg (by omega)]
theorem sum_y {n y : Int} {ms : List (Int × Int)} {k : Nat} (h : partI n ms k = y) : sumI n ms (k + 1) = sumI n ms k + y := by rw [sumI, h]
theorem sum_0 {n : Int} {ms : List (Int × Int)} {k : Nat} (h : partI n ms k = 0) : sumI n ms (k + 1) = sumI n ms k := by rw [sumI, h, Int.add_zero]
theorem part_cases (n : Int) (ms : List (Int × Int)) (k : Nat) :
    (k + 1 < ms.length ∧ mF ms (k + 1) < n ∧ mF ms k < mF ms (k + 1) ∧ partI n ms k = (mF ms (k + 1) - mF ms k) * mP ms k) ∨
    (k + 1 < ms.length ∧ mF ms (k + 1) < n ∧ mF ms (k + 1) ≤ mF ms k ∧ partI n ms k = 0) ∨
    (k + 1 < ms.length ∧ n ≤ mF ms (k + 1) ∧ mF ms k < n ∧ partI n ms k = (n - mF ms k) * mP ms k) ∨
    (k + 1 < ms.length ∧ n ≤ mF ms (k + 1) ∧ n ≤ mF ms k ∧ partI n ms k = 0) ∨
    (ms.length ≤ k + 1 ∧ mF ms k < n ∧ partI n ms k = (n - mF ms k) * mP ms k) ∨
    (ms.length ≤ k + 1 ∧ n ≤ mF ms k ∧ partI n ms k = 0) := by
  by_cases h1 : k + 1 < ms.length
  · by_cases h2 : mF ms (k + 1) < n
    · by_cases h3 : mF ms k < mF ms (k + 1)
      · exact Or.inl ⟨h1, h2, h3, partI_is _ (by omega)⟩
      · exact Or.inr (Or.inl ⟨h1, h2, by omega, partI_is _ (by omega)⟩)
    · by_cases h3 : mF ms k < n
      · exact Or.inr (Or.inr (Or.inl ⟨h1, by omega, h3, partI_is _ (by omega)⟩))
      · exact Or.inr (Or.inr (Or.inr (Or.inl ⟨h1, by omega, by omega, partI_is _ (by omega)⟩)))
  · by_cases h3 : mF ms k < n
    · exact Or.inr (Or.inr (Or.inr (Or.inr (Or.inl ⟨by omega, h3, partI_is _ (by omega)⟩))))
    · exact Or.inr (Or.inr (Or.inr (Or.inr (Or.inr ⟨by omega, by omega, partI_is _ (by omega)⟩))))

theorem okT_no {n : Int} {ms : List (Int × Int)} {k : Nat} {y : Int} (hx : partI n ms k = y) (h : 1000000000000 < y ∨ 1000000000000 < sumI n ms k + y) : okT n ms k = false := by
  simp only [okT, sumI, hx, Bool.and_eq_false_iff, decide_eq_false_iff_not]; omega
theorem okT_yes {n : Int} {ms : List (Int × Int)} {k : Nat} {y : Int} (hx : partI n ms k = y) (h : y ≤ 1000000000000) (h' : sumI n ms k + y ≤ 1000000000000) : okT n ms k = true := by
  simp only [okT, sumI, hx, Bool.and_eq_true, decide_eq_true_eq]; omega
theorem tier_bad {n : Int} {ms : List (Int × Int)} {k : Nat} (hk : k < ms.length) (h : okT n ms k = false) :
    Ending.returned (.tuple #[.int .i64 0, .int .i64 2]) = .returned (.tuple #[.int .i64 (tierV n ms), .int .i64 (codeT n ms)]) := by
  simp [tierV, codeT, tierB_no hk h]

set_option maxHeartbeats 2000000 in
theorem l4Tiers_some (n : Int) (b off cap : Nat) (ms : List (Int × Int)) (w : World) (h : MarksAt w b off ms) (hl : ms.length ≤ 9223372036854775807) (hc : ms.length ≤ cap)
    (n0 : 0 ≤ n) (n1 : n ≤ 1000000000000) (hm : marksB ms = true) :
    Calls Try.prog 43 #[.int .i64 n, .slice (some ⟨b, off, none⟩) ms.length cap] w fun e w' => e = .returned (.tuple #[.int .i64 (tierV n ms), .int .i64 (codeT n ms)]) ∧ w = w' := by
  obtain ⟨hf, hp, hb⟩ := h
  have HF := Lib.hid hf
  have HP := Lib.hid hp
  have HM := Lib.hid hm
  clear hf hp hm
  go_enter Try.func43, Try.ntmps43
  go_wp2_with fail
  go_loop [6, 7] (fun s i => ∃ k : Nat, k ≤ ms.length ∧ i = .int .i64 k ∧ s = .int .i64 (sumI n ms k) ∧ sumI n ms k ≤ 1000000000000 ∧ (∀ j, j < k → okT n ms j = true)) (fun _ i => ms.length - (intOf i).toNat)
  case atStart => exact ⟨0, Nat.zero_le _, rfl, rfl, by simp [sumI], by omega⟩
  case round =>
    obtain ⟨k, hk, rfl, rfl, hs1, hal⟩ := hrel
    have HAL := Lib.hid hal
    clear hal
    have hs0 := sumI_nn HM.out n k
    by_cases hlt : k < ms.length
    · have cf := HF.out k hlt
      have cp := HP.out k hlt
      have cg : (k : Int) + 1 < (ms.length : Int) → w.cell? ⟨b, off + (k + 1) * 2, none⟩ = some (.int .i64 (mF ms (k + 1))) := fun h => HF.out (k + 1) (by omega)
      obtain ⟨b1, b2, b3, b4⟩ := marks_bd HM.out k
      obtain ⟨b5, b6, b7, b8⟩ := marks_bd HM.out (k + 1)
      obtain ⟨b9, b10⟩ := prod_bd (mF ms (k + 1) - mF ms k) (mP ms k) (by omega) (by omega) b3 b4
      obtain ⟨b11, b12⟩ := prod_bd (n - mF ms k) (mP ms k) (by omega) (by omega) b3 b4
      go_wp2_with fail
      all_goals first
        | (go_ret2; (first | exact ⟨tier_bad hlt (okT_no (partI_is ((mF ms (k + 1) - mF ms k) * mP ms k) (by omega)) (by first | (right; omega) | (left; exact quo_lt (by assumption) (by assumption)))), rfl⟩ | exact ⟨tier_bad hlt (okT_no (partI_is ((n - mF ms k) * mP ms k) (by omega)) (by first | (right; omega) | (left; exact quo_lt (by assumption) (by assumption)))), rfl⟩))
        | (go_round
           case rel => (first | (have hx := partI_is (n := n) (ms := ms) (k := k) ((mF ms (k + 1) - mF ms k) * mP ms k) (by omega); exact ⟨k + 1, by omega, by go_num, by first | rw [sum_0 hx] | rw [sum_y hx], by rw [sum_y hx]; omega, all_succ HAL.out (okT_yes hx (by omega) (by omega))⟩) | (have hx := partI_is (n := n) (ms := ms) (k := k) ((n - mF ms k) * mP ms k) (by omega); exact ⟨k + 1, by omega, by go_num, by first | rw [sum_0 hx] | rw [sum_y hx], by rw [sum_y hx]; omega, all_succ HAL.out (okT_yes hx (by omega) (by omega))⟩) | (have hx := partI_is (n := n) (ms := ms) (k := k) 0 (by omega); exact ⟨k + 1, by omega, by go_num, by first | rw [sum_0 hx] | rw [sum_y hx], by rw [sum_y hx]; omega, all_succ HAL.out (okT_yes hx (by omega) (by omega))⟩))
           case measure => simp [intOf]; omega)
    · go_wp2_with fail
      go_ret2
      have hlen : k = ms.length := by omega
      subst hlen
      exact ⟨by simp [tierV, codeT, tierB_yes HAL.out], rfl⟩

/-- The reference's TiersOf. -/
def tofG (n : Int) (ms : List (Int × Int)) : Bool := inB n 0 1000000000000 && marksB ms
def tofB (n : Int) (ms : List (Int × Int)) : Bool := tofG n ms && tierB n ms
def tofV (n : Int) (ms : List (Int × Int)) : Int := if tofB n ms then sumI n ms ms.length else 0
theorem tof_no {n : Int} {ms : List (Int × Int)} (h : tofG n ms = false) : Ending.returned (.tuple #[.int .i64 0, .bool false]) = .returned (.tuple #[.int .i64 (tofV n ms), .bool (tofB n ms)]) := by
  simp [tofV, tofB, h]
theorem tof_bad {n : Int} {ms : List (Int × Int)} (h : tierB n ms = false) : Ending.returned (.tuple #[.int .i64 0, .bool false]) = .returned (.tuple #[.int .i64 (tofV n ms), .bool (tofB n ms)]) := by
  simp [tofV, tofB, h]
theorem tof_yes {n : Int} {ms : List (Int × Int)} (h : tofG n ms = true) (h' : tierB n ms = true) : Ending.returned (.tuple #[.int .i64 (sumI n ms ms.length), .bool true]) = .returned (.tuple #[.int .i64 (tofV n ms), .bool (tofB n ms)]) := by
  simp [tofV, tofB, h, h']

set_option maxHeartbeats 1000000 in
theorem sTiersOf_some (n : Int) (b off cap : Nat) (ms : List (Int × Int)) (w : World) (h : MarksAt w b off ms) (hl : ms.length ≤ 9223372036854775807) (hc : ms.length ≤ cap) :
    Calls Try.prog 27 #[.int .i64 n, .slice (some ⟨b, off, none⟩) ms.length cap] w fun e w' => e = .returned (.tuple #[.int .i64 (tofV n ms), .bool (tofB n ms)]) ∧ Below w.heap.size w w' := by
  have hkeep : ∀ w', Below w.heap.size w w' → MarksAt w' b off ms := fun w' hb => MarksAt.below h hb (Nat.le_refl _)
  have HK := Lib.hid hkeep
  have HB := Lib.hid (Below.refl w.heap.size w)
  clear h hkeep
  cases hn : inB n 0 1000000000000
  · go_enter Try.func27, Try.ntmps27
    go_wp2_with (go_at_call 31; ((with_reducible refine (l1In_any _ _ _ _).mono ?_); rintro e w' ⟨rfl, rfl⟩))
    go_ret2
    exact ⟨tof_no (by simp [tofG, hn]), (by repeat (first | exact HB.out | exact Below.refl _ _ | apply below_drewN | apply Below.drew | refine Below.alloc ?_ (by have := HB.out.size; first | omega | (simp; done) | (simp; omega)) _))⟩
  · have hnb := inB_true hn
    cases hm : marksB ms
    · go_enter Try.func27, Try.ntmps27
      go_wp2_with (first | (go_at_call 31; ((with_reducible refine (l1In_any _ _ _ _).mono ?_); rintro e w' ⟨rfl, rfl⟩)) | (go_at_call 42; ((with_reducible refine (l4Marks_some _ _ _ _ _ (HK.out _ HB.out) hl hc).mono ?_); rintro e wD ⟨rfl, hbb⟩; have hbc := bT (w := w) (by repeat (first | exact HB.out | exact Below.refl _ _ | apply below_drewN | apply Below.drew | refine Below.alloc ?_ (by have := HB.out.size; first | omega | (simp; done) | (simp; omega)) _)) hbb; clear hbb HB; have HB := Lib.hid hbc; clear hbc)))
      go_ret2
      exact ⟨tof_no (by simp [tofG, hm]), (by repeat (first | exact HB.out | exact Below.refl _ _ | apply below_drewN | apply Below.drew | refine Below.alloc ?_ (by have := HB.out.size; first | omega | (simp; done) | (simp; omega)) _))⟩
    · cases ht : tierB n ms
      all_goals
        go_enter Try.func27, Try.ntmps27
        go_wp2_with (first | (go_at_call 31; ((with_reducible refine (l1In_any _ _ _ _).mono ?_); rintro e w' ⟨rfl, rfl⟩)) | (go_at_call 42; ((with_reducible refine (l4Marks_some _ _ _ _ _ (HK.out _ HB.out) hl hc).mono ?_); rintro e wD ⟨rfl, hbb⟩; have hbc := bT (w := w) (by repeat (first | exact HB.out | exact Below.refl _ _ | apply below_drewN | apply Below.drew | refine Below.alloc ?_ (by have := HB.out.size; first | omega | (simp; done) | (simp; omega)) _)) hbb; clear hbb HB; have HB := Lib.hid hbc; clear hbc)) | (go_at_call 43; ((with_reducible refine (l4Tiers_some _ _ _ _ _ _ (HK.out _ HB.out) hl hc hnb.1 hnb.2 hm).mono ?_); rintro e w' ⟨rfl, rfl⟩)))
        go_ret2
        exact ⟨by simp [tierV, codeT, tofV, tofB, tofG, hn, hm, ht], (by repeat (first | exact HB.out | exact Below.refl _ _ | apply below_drewN | apply Below.drew | refine Below.alloc ?_ (by have := HB.out.size; first | omega | (simp; done) | (simp; omega)) _))⟩

theorem w64 {x : Int} (h : -9223372036854775808 ≤ x ∧ x ≤ 9223372036854775807) : wrap64 x = x := by unfold wrap64; omega

theorem okT_no' {n : Int} {ms : List (Int × Int)} {k : Nat} {y : Int} (hm : marksB ms = true) (hx : partI n ms k = y) (h : ¬ mOk y = true ∨ ¬ mOk (sumI n ms k + y) = true) : okT n ms k = false := by
  have a := partI_nn hm n k
  have b := sumI_nn hm n k
  refine okT_no hx ?_
  rw [hx] at a
  rcases h with h | h
  · have := mOk_false (bF h); omega
  · have := mOk_false (bF h); omega

set_option maxHeartbeats 4000000 in
theorem iTiersOf_some (n : Int) (b off cap : Nat) (ms : List (Int × Int)) (w : World) (h : MarksAt w b off ms) (hl : ms.length ≤ 9223372036854775807) (hc : ms.length ≤ cap) :
    Calls Try.prog 26 #[.int .i64 n, .slice (some ⟨b, off, none⟩) ms.length cap] w fun e w' => e = .returned (.tuple #[.int .i64 (tofV n ms), .bool (tofB n ms)]) ∧ Below w.heap.size w w' := by
  have hkeep : ∀ w', Below w.heap.size w w' → MarksAt w' b off ms := fun w' hb => MarksAt.below h hb (Nat.le_refl _)
  have HK := Lib.hid hkeep
  have HB := Lib.hid (Below.refl w.heap.size w)
  clear h hkeep
  cases hm : marksB ms
  · go_enter Try.func26, Try.ntmps26
    go_wp2_with (first | (go_at_call 32; ((with_reducible refine (in_any _ _ _ _).mono ?_); rintro e w' ⟨rfl, rfl⟩)) | (go_at_call 41; ((with_reducible refine (marksOk_some _ _ _ _ _ (HK.out _ HB.out) hl hc).mono ?_); rintro e wD ⟨rfl, hbb⟩; have hbc := bT (w := w) (by repeat (first | exact HB.out | exact Below.refl _ _ | apply below_drewN | apply Below.drew | refine Below.alloc ?_ (by have := HB.out.size; first | omega | (simp; done) | (simp; omega)) _)) hbb; clear hbb HB; have HB := Lib.hid hbc; clear hbc)))
    go_ret2
    exact ⟨tof_no (by simp [tofG, hm]), (by repeat (first | exact HB.out | exact Below.refl _ _ | apply below_drewN | apply Below.drew | refine Below.alloc ?_ (by have := HB.out.size; first | omega | (simp; done) | (simp; omega)) _))⟩
  · cases hn : inB n 0 1000000000000
    · go_enter Try.func26, Try.ntmps26
      go_wp2_with (first | (go_at_call 32; ((with_reducible refine (in_any _ _ _ _).mono ?_); rintro e w' ⟨rfl, rfl⟩)) | (go_at_call 41; ((with_reducible refine (marksOk_some _ _ _ _ _ (HK.out _ HB.out) hl hc).mono ?_); rintro e wD ⟨rfl, hbb⟩; have hbc := bT (w := w) (by repeat (first | exact HB.out | exact Below.refl _ _ | apply below_drewN | apply Below.drew | refine Below.alloc ?_ (by have := HB.out.size; first | omega | (simp; done) | (simp; omega)) _)) hbb; clear hbb HB; have HB := Lib.hid hbc; clear hbc)))
      go_ret2
      exact ⟨tof_no (by simp [tofG, hn]), (by repeat (first | exact HB.out | exact Below.refl _ _ | apply below_drewN | apply Below.drew | refine Below.alloc ?_ (by have := HB.out.size; first | omega | (simp; done) | (simp; omega)) _))⟩
    · obtain ⟨n0, n1⟩ := inB_true hn
      have HM := Lib.hid hm
      have HG := Lib.hid (show tofG n ms = true by simp [tofG, hm, hn])
      go_enter Try.func26, Try.ntmps26
      go_wp2_with (first | (go_at_call 32; ((with_reducible refine (in_any _ _ _ _).mono ?_); rintro e w' ⟨rfl, rfl⟩)) | (go_at_call 41; ((with_reducible refine (marksOk_some _ _ _ _ _ (HK.out _ HB.out) hl hc).mono ?_); rintro e wD ⟨rfl, hbb⟩; have hbc := bT (w := w) (by repeat (first | exact HB.out | exact Below.refl _ _ | apply below_drewN | apply Below.drew | refine Below.alloc ?_ (by have := HB.out.size; first | omega | (simp; done) | (simp; omega)) _)) hbb; clear hbb HB; have HB := Lib.hid hbc; clear hbc)))
      clear hm hn
      go_loopw [6, 21] (fun s i w' => ∃ k : Nat, k ≤ ms.length ∧ i = .int .i64 k ∧ s = .int .i64 (sumI n ms k) ∧ sumI n ms k ≤ 1000000000000 ∧ (∀ j, j < k → okT n ms j = true) ∧ Below w.heap.size w w') (fun _ i _ => ms.length - (intOf i).toNat)
      case atStart => exact ⟨0, Nat.zero_le _, rfl, rfl, by simp [sumI], by omega, HB.out⟩
      case round =>
        obtain ⟨k, hk, rfl, rfl, hs1, hal, hbel⟩ := hrel
        have HAL := Lib.hid hal
        clear hal HB
        have HB := Lib.hid hbel
        clear hbel
        have hs0 := sumI_nn HM.out n k
        by_cases hlt : k < ms.length
        · have hw := HK.out _ HB.out
          have cf := hw.f k hlt
          have cp := hw.p k hlt
          have cg : ∀ o, (k : Int) + 1 < (ms.length : Int) → (wr.alloc o).cell? ⟨b, off + (k + 1) * 2, none⟩ = some (.int .i64 (mF ms (k + 1))) := fun o h => (cellA hw.lt).trans (hw.f (k + 1) (by omega))
          clear hw
          obtain ⟨b1, b2, b3, b4⟩ := marks_bd HM.out k
          obtain ⟨b5, b6, b7, b8⟩ := marks_bd HM.out (k + 1)
          obtain ⟨b9, b10⟩ := prod_bd (mF ms (k + 1) - mF ms k) (mP ms k) (by omega) (by omega) b3 b4
          obtain ⟨b11, b12⟩ := prod_bd (n - mF ms k) (mP ms k) (by omega) (by omega) b3 b4
          rcases part_cases n ms k with ⟨h1, h2, h3, hx⟩ | ⟨h1, h2, h3, hx⟩ | ⟨h1, h2, h3, hx⟩ | ⟨h1, h2, h3, hx⟩ | ⟨h1, h3, hx⟩ | ⟨h1, h3, hx⟩
          all_goals
            have HX := Lib.hid hx
            clear hx
            have w7 : mOk 0 = true := by decide
            go_wp2_with (go_at_call 14; ((with_reducible refine (iMoneyOk_any _ _).mono ?_); rintro e w' ⟨rfl, rfl⟩))
            all_goals first
              | (go_ret2; exact ⟨tof_bad (tierB_no hlt (okT_no' HM.out HX.out (by first | (left; assumption) | (right; simpa using ‹(!mOk _) = true›)))), (by repeat (first | exact HB.out | exact Below.refl _ _ | apply below_drewN | apply Below.drew | refine Below.alloc ?_ (by have := HB.out.size; first | omega | (simp; done) | (simp; omega)) _))⟩)
              | (go_roundw
                 case rel =>
                   have hmm : mOk (sumI n ms (k + 1)) = true := by first | (rw [sum_0 HX.out]; simpa using ‹(!mOk _) = false›) | (rw [sum_y HX.out]; simpa using ‹(!mOk _) = false›)
                   have hm2 := mOk_true hmm
                   have hyy := sum_y HX.out
                   exact ⟨k + 1, by omega, by go_num, by first | rw [sum_0 HX.out] | rw [sum_y HX.out], by omega, all_succ HAL.out (okT_yes HX.out (by omega) (by omega)), (by repeat (first | exact HB.out | exact Below.refl _ _ | apply below_drewN | apply Below.drew | refine Below.alloc ?_ (by have := HB.out.size; first | omega | (simp; done) | (simp; omega)) _))⟩
                 case measure => simp [intOf]; omega)
        · go_wp2_with fail
          go_ret2
          have hlen : k = ms.length := by omega
          subst hlen
          exact ⟨tof_yes HG.out (tierB_yes HAL.out), HB.out⟩

end My
end Go.Proofs.Ytdoiklcaiafcpaa
