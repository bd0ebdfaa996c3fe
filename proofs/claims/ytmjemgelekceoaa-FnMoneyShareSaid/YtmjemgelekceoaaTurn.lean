/- FnMoneyTurn: the plain law and the walk. -/
import Derived.Test.YtmjemgelekceoaaDrawS
namespace Go.Proofs.Ytmjemgelekceoaa
open Go.RowKit Go.Deep
set_option linter.unusedVariables false
namespace My

theorem mOk_neg (T : Int) : mOk (-T) = mOk T := by
  simp only [mOk, inB]
  rw [Bool.eq_iff_iff]
  simp
  omega
theorem absI_neg (T : Int) : absI (-T) = absI T := by simp only [absI]; omega
theorem mshN_neg (T : Int) (ws : Nat → Int) (n : Nat) : mshN (-T) ws n = mshN T ws n := by simp [mshN, shareG, mOk_neg]
theorem sumF_zero {f : Nat → Int} (h : ∀ i, f i = 0) : ∀ n, sumF f n = 0
  | 0 => rfl
  | n + 1 => by simp [sumF, sumF_zero h n, h n]
theorem shareF_zero (ws : Nat → Int) (n i : Nat) : shareF 0 ws n i = 0 := by
  have h : ∀ i, quoF 0 (sumF ws n) ws i = 0 := fun i => by simp [quoF]
  have e : restF 0 (sumF ws n) ws n = 0 := by simp [restF, sumF_zero h]
  simp [shareF, e, outS, h i]
theorem mshF_neg (T : Int) (ws : Nat → Int) (n i : Nat) : mshF (-T) ws n i = -(mshF T ws n i) := by
  simp only [mshF, absI_neg, signF]
  rcases Int.lt_trichotomy T 0 with h | h | h
  · rw [if_neg (by omega), if_pos h]; omega
  · subst h
    have e : absI 0 = 0 := rfl
    simp [e, shareF_zero]
  · rw [if_pos (by omega), if_neg (by omega)]
theorem mshF_bd {T : Int} {ws : Nat → Int} {n : Nat} (i : Nat) (hi : i < mshN T ws n) : -2000000000000000000 ≤ mshF T ws n i ∧ mshF T ws n i ≤ 2000000000000000000 := by
  cases hg : shareG T ws n
  · simp [mshN, hg] at hi
  · obtain ⟨hw, hm, h8, s0, s1, hn⟩ := range_wB hg
    obtain ⟨m0, m1⟩ := inB_true (show inB T (-1000000000000) 1000000000000 = true from hm)
    simp [mshN, hg] at hi
    have h := (share_facts (T := absI T) (by simp only [absI]; omega) (by simp only [absI]; omega) hw s0 hn).2.2 i hi
    simp only [mshF, signF]
    split <;> omega

set_option maxHeartbeats 4000000 in
theorem FnMoneyTurn_walk (a0 : Option Addr) (len0 cap0 : Nat) (z0 : Unit) (w : World) (h : BytesIn w a0 len0 cap0) :
    Calls Try.prog 6 #[.slice a0 len0 cap0] w fun e w' => e = .returned (.bool true) ∧ Below w.heap.size w w' := by
  have H := Lib.hid h
  have HB0 := Lib.hid (Below.refl w.heap.size w)
  have h2 := h.2.1
  unfold maxLen at h2
  have h1 := h.1
  clear h
  by_cases hs : 1048576 < len0
  · go_enter Try.func6, Try.ntmps6
    go_wp2_with fail
    go_ret
    exact ⟨rfl, HB0.out⟩
  · go_enter Try.func6, Try.ntmps6
    go_wp2_with fail
    refine (DrawMoneyShare_any _ _ _ _ H.out).mono ?_
    rintro e w1 ⟨T, g, n, c, ws, rfl, ⟨t0, t1⟩, hn, hc, hg, ho, hbd, hb⟩
    have HO := Lib.hid ho
    have HB1 := Lib.hid hb
    clear ho hb hbd
    have hN := mshN_le T ws n
    have HNN := Lib.hid (mshN_neg T ws n)
    have HFN := Lib.hid (mshF_neg T ws n)
    have HBD := Lib.hid (fun i => mshF_bd (T := T) (ws := ws) (n := n) i)
    go_wp2_with fail
    refine (iMoneyShare_own T g n c ws w1 HO.out (by omega) hc).mono ?_
    rintro e w2 ⟨a2, c2, rfl, o2, b2⟩
    have hc2 := o2.le
    have HO2 := Lib.hid o2
    have HB2 := Lib.hid (bT HB1.out b2)
    have HC2 := Lib.hid b2
    clear o2 b2
    go_wp2_with fail
    refine (iMoneyShare_own (-T) g n c ws w2 (HO.out.below HC2.out (Nat.le_refl _)) (by omega) hc).mono ?_
    rintro e w3 ⟨a3, c3, rfl, o3, b3⟩
    rw [HNN.out] at o3 ⊢
    have hc3 := o3.le
    have HO3 := Lib.hid o3
    have HB3 := Lib.hid (bT HB2.out b3)
    have HC3 := Lib.hid (bT HC2.out b3)
    have HD3 := Lib.hid b3
    clear o3 b3
    go_wp2_with fail
    refine (sMoneyShare_own T g n c ws w3 (HO.out.below HC3.out (Nat.le_refl _)) (by omega) hc).mono ?_
    rintro e w4 ⟨a4, c4, rfl, o4, b4⟩
    have hc4 := o4.le
    have HO4 := Lib.hid o4
    have HB4 := Lib.hid (bT HB3.out b4)
    have HD4 := Lib.hid (bT HD3.out b4)
    have HE4 := Lib.hid b4
    clear o4 b4
    go_wp2_with fail
    refine (wsInts_same a2 a4 (mshN T ws n) c2 c4 (mshF T ws n) w4 (HO2.out.inI.below HD4.out (Nat.le_refl _)) HO4.out.inI (by omega) hc2 hc4).mono ?_
    rintro e _ ⟨rfl, x4, rfl⟩
    have HI2 := Lib.hid ((HO2.out.inI.below HD4.out (Nat.le_refl _)).drewN x4)
    have HI3 := Lib.hid ((HO3.out.inI.below HE4.out (Nat.le_refl _)).drewN x4)
    have HB5 := Lib.hid (bD HB4.out x4)
    obtain ⟨N, hNe⟩ : ∃ N, N = mshN T ws n := ⟨_, rfl⟩
    rw [← hNe] at HI2 HI3 HBD hc2 hc3 hN ⊢
    have hN9 : N ≤ 9 := by omega
    clear hNe
    go_wp2_with fail
    obtain ⟨w5, hw5⟩ : ∃ w5, w5 = w4.drewN x4 := ⟨_, rfl⟩
    rw [← hw5] at HI2 HI3 HB5 ⊢
    clear hw5
    go_loopw [7] (fun i w' => ∃ k z : Nat, k ≤ N ∧ i = .int .i64 k ∧ w' = w5.drewN z) (fun i _ => N - (intOf i).toNat)
    case atStart => exact ⟨0, 0, Nat.zero_le _, rfl, rfl⟩
    case round =>
      obtain ⟨k, z, hk, rfl, rfl⟩ := hrel
      by_cases hlt : k < N
      · obtain ⟨b, off, rfl, hi⟩ : ∃ b off, a2 = some ⟨b, off, none⟩ ∧ IntsAt w5 b off N (mshF T ws n) := by
          rcases HI2.out with h0 | h0
          · omega
          · exact h0
        obtain ⟨b', off', rfl, hi'⟩ : ∃ b off, a3 = some ⟨b, off, none⟩ ∧ IntsAt w5 b off N (mshF (-T) ws n) := by
          rcases HI3.out with h0 | h0
          · omega
          · exact h0
        have cf := hi.c k hlt
        have cf' := hi'.c k hlt
        have hbk := HBD.out k hlt
        have hne := HFN.out k
        obtain ⟨x, hx⟩ : ∃ x, x = mshF T ws n k := ⟨_, rfl⟩
        obtain ⟨y, hy⟩ : ∃ y, y = mshF (-T) ws n k := ⟨_, rfl⟩
        rw [← hx] at cf hbk hne
        rw [← hy] at cf' hne
        have e1 : IntKind.i64.wrap (-y) = -y := IntWalk.i64_in _ (by omega)
        have e2 : (x != -y) = false := by simp; omega
        have x1 : (k : Int) < (N : Int) := by omega
        clear hi hi' hx hy hne
        go_wp2_with fail
        go_quiet (fail)
        go_wp2_with fail
        go_roundw
        case rel => exact ⟨k + 1, _, by omega, by go_num, rfl⟩
        case measure => simp [intOf]; omega
      · go_wp2_with fail
        go_ret
        exact ⟨rfl, bD HB5.out z⟩

end My
end Go.Proofs.Ytmjemgelekceoaa
