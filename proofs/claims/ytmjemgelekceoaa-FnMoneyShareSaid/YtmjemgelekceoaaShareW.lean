/- FnMoneyShare and FnFareShares: the walks. -/
import Derived.Test.YtmjemgelekceoaaShareK
namespace Go.Proofs.Ytmjemgelekceoaa
open Go.RowKit Go.Deep
set_option linter.unusedVariables false
namespace My

theorem msh_mul {T : Int} {ws : Nat → Int} {n : Nat} {F : Nat → Int} (h : MshLaw T ws n F) {k : Nat} (hk : k < n) :
    (-1000000000000000000 ≤ T * ws k ∧ T * ws k ≤ 1000000000000000000) ∧ (-1000000000000000000 ≤ F k * sumF ws n ∧ F k * sumF ws n ≤ 1000000000000000000) := by
  have gen : ∀ a b : Int, -1000000000000 ≤ a → a ≤ 1000000000000 → 0 ≤ b → b ≤ 1000000 → -1000000000000000000 ≤ a * b ∧ a * b ≤ 1000000000000000000 := by
    intro a b a0 a1 b0 b1
    rcases Int.lt_or_le a 0 with c | c
    · have := mul_bd (-a) b (by omega) (by omega) b0 b1
      rw [Int.neg_mul] at this
      omega
    · have := mul_bd a b c a1 b0 b1
      omega
  have h1 := h.w k hk
  have h2 := h.each k hk
  have h3 := h.a0
  have h4 := h.a1
  exact ⟨gen _ _ h.T0 h.T1 h1.1 h1.2, gen _ _ h2.1 h2.2 (by omega) h4⟩

set_option maxHeartbeats 4000000 in
theorem FnMoneyShare_walk (a0 : Option Addr) (len0 cap0 : Nat) (z0 : Unit) (w : World) (h : BytesIn w a0 len0 cap0) :
    Calls Try.prog 5 #[.slice a0 len0 cap0] w fun e w' => e = .returned (.bool true) ∧ Below w.heap.size w w' := by
  have H := Lib.hid h
  have HB0 := Lib.hid (Below.refl w.heap.size w)
  have h2 := h.2.1
  unfold maxLen at h2
  have h1 := h.1
  clear h
  by_cases hs : 1048576 < len0
  · go_enter Try.func5, Try.ntmps5
    go_wp2_with fail
    go_ret
    exact ⟨rfl, HB0.out⟩
  · go_enter Try.func5, Try.ntmps5
    go_wp2_with fail
    refine (DrawMoneyShare_any _ _ _ _ H.out).mono ?_
    rintro e w1 ⟨T, g, n, c, ws, rfl, ⟨t0, t1⟩, hn, hc, hg, ho, hbd, hb⟩
    have HO := Lib.hid ho
    have HB1 := Lib.hid hb
    clear ho hb hbd
    have hN := mshN_le T ws n
    go_wp2_with fail
    refine (iMoneyShare_own T g n c ws w1 HO.out (by omega) hc).mono ?_
    rintro e w2 ⟨a2, c2, rfl, o2, b2⟩
    have hc2 := o2.le
    have HO2 := Lib.hid o2
    have HB2 := Lib.hid (bT HB1.out b2)
    have HC2 := Lib.hid b2
    clear o2 b2
    go_wp2_with fail
    refine (sMoneyShare_own T g n c ws w2 (HO.out.below HC2.out (Nat.le_refl _)) (by omega) hc).mono ?_
    rintro e w3 ⟨a3, c3, rfl, o3, b3⟩
    have hc3 := o3.le
    have HO3 := Lib.hid o3
    have HB3 := Lib.hid (bT HB2.out b3)
    have HC3 := Lib.hid (bT HC2.out b3)
    have HD3 := Lib.hid b3
    clear o3 b3
    go_wp2_with fail
    refine (wsInts_same a2 a3 (mshN T ws n) c2 c3 (mshF T ws n) w3 (HO2.out.inI.below HD3.out (Nat.le_refl _)) HO3.out.inI (by omega) hc2 hc3).mono ?_
    rintro e _ ⟨rfl, x4, rfl⟩
    have HI2 := Lib.hid ((HO2.out.inI.below HD3.out (Nat.le_refl _)).drewN x4)
    have HWS := Lib.hid ((HO.out.below HC3.out (Nat.le_refl _)).of_block (w' := w3.drewN x4) rfl)
    have HB5 := Lib.hid (bD HB3.out x4)
    obtain ⟨w5, hw5⟩ : ∃ w5, w5 = w3.drewN x4 := ⟨_, rfl⟩
    rw [← hw5] at HI2 HB5 HWS ⊢
    clear hw5
    cases hgg : shareG T ws n
    · have h0 : mshN T ws n = 0 := by simp [mshN, hgg]
      rw [h0]
      clear h0 hgg
      go_wp2_with fail
      go_ret
      exact ⟨rfl, HB5.out⟩
    · have h0 : mshN T ws n = n := by simp [mshN, hgg]
      rw [h0] at HI2 hc2 ⊢
      have HL := Lib.hid (msh_law hgg)
      have hn1 := HL.out.n1
      have ha0 := HL.out.a0
      have ha1 := HL.out.a1
      have nz : ((n : Int) == 0) = false := by simp; omega
      obtain ⟨F, hF⟩ : ∃ F, F = mshF T ws n := ⟨_, rfl⟩
      rw [← hF] at HL HI2
      obtain ⟨b, off, rfl, hi⟩ : ∃ b off, a2 = some ⟨b, off, none⟩ ∧ IntsAt w5 b off n F := by
        rcases HI2.out with h0 | h0
        · omega
        · exact h0
      have HI := Lib.hid hi
      clear hi HI2 HO2 h0 hgg hF
      go_wp2_with fail
      go_loop [6, 7, 8] (fun s a i => ∃ k : Nat, k ≤ n ∧ i = .int .i64 k ∧ s = .int .i64 (sumF F k) ∧ a = .int .i64 (sumF ws k)) (fun _ _ i => n - (intOf i).toNat)
      case atStart => exact ⟨0, Nat.zero_le _, rfl, rfl, rfl⟩
      case round =>
        obtain ⟨k, hk, rfl, rfl, rfl⟩ := hrel
        have p1 := HL.out.part k hk
        have p2 := HL.out.wp k hk
        by_cases hlt : k < n
        · have cf := HI.out.c k hlt
          have cw := HWS.out.cell hlt
          have q1 := HL.out.each k hlt
          have q2 := HL.out.w k hlt
          have x1 : (k : Int) < (n : Int) := by omega
          go_wp2_with fail
          go_round
          case rel => exact ⟨k + 1, by omega, by go_num, rfl, rfl⟩
          case measure => simp [intOf]; omega
        · have e : k = n := by omega
          subst e
          obtain ⟨A, hA⟩ : ∃ A, A = sumF ws k := ⟨_, rfl⟩
          have HA := Lib.hid hA
          rw [← hA] at ha0 ha1 p2 ⊢
          have hsum : (sumF F k == T) = true := by simp [HL.out.sum]
          clear hA
          go_wp2_with fail
          go_loopw [9] (fun i w' => ∃ j z : Nat, j ≤ k ∧ i = .int .i64 j ∧ w' = w5.drewN z) (fun i _ => k - (intOf i).toNat)
          case atStart => exact ⟨0, 0, Nat.zero_le _, rfl, rfl⟩
          case round =>
            obtain ⟨j, z, hj, rfl, rfl⟩ := hrel
            by_cases hlt : j < k
            · have cf := HI.out.c j hlt
              have cw := HWS.out.cell hlt
              have q1 := HL.out.each j hlt
              have q2 := HL.out.w j hlt
              have q3 := HL.out.near j hlt
              have q4 := HL.out.zero j hlt
              obtain ⟨m1, m2⟩ := msh_mul HL.out hlt
              rw [← HA.out] at m2 q3
              obtain ⟨x, hx⟩ : ∃ x, x = F j := ⟨_, rfl⟩
              obtain ⟨y, hy⟩ : ∃ y, y = ws j := ⟨_, rfl⟩
              rw [← hx] at cf q1 q3 q4 m2
              rw [← hy] at cw q2 q3 q4 m1
              have e1 : IntKind.i64.wrap (T * y) = T * y := IntWalk.i64_in _ (by omega)
              have e2 : IntKind.i64.wrap (x * A) = x * A := IntWalk.i64_in _ (by omega)
              obtain ⟨d, hd⟩ : ∃ d, d = T * y - x * A := ⟨_, rfl⟩
              rw [← hd] at q3
              have e3 : IntKind.i64.wrap (T * y - x * A) = d := by rw [hd]; exact IntWalk.i64_in _ (by omega)
              have x1 : (j : Int) < (k : Int) := by omega
              obtain ⟨d0, d1⟩ := q3
              by_cases hz : y = 0
              · have z1 : (y == 0) = true := by simp [hz]
                have z2 : (x != 0) = false := by simp [q4 hz]
                clear hx hy hd hz q4 m1 m2 p1
                go_wp2_with fail
                go_quiet (fail)
                clear e1 e2 e3
                go_wp2_with fail
                go_roundw
                case rel => exact ⟨j + 1, _, by omega, by go_num, rfl⟩
                case measure => simp [intOf]; omega
              · have z1 : (y == 0) = false := by simp [hz]
                clear hx hy hd hz q4 m1 m2 p1
                go_wp2_with fail
                go_quiet (fail)
                clear e1 e2 e3
                go_wp2_with fail
                go_roundw
                case rel => exact ⟨j + 1, _, by omega, by go_num, rfl⟩
                case measure => simp [intOf]; omega
            · go_wp2_with fail
              go_ret
              exact ⟨rfl, bD HB5.out z⟩

set_option maxHeartbeats 4000000 in
theorem FnFareShares_walk (a0 : Option Addr) (len0 cap0 : Nat) (z0 : Unit) (w : World) (h : BytesIn w a0 len0 cap0) :
    Calls Try.prog 7 #[.slice a0 len0 cap0] w fun e w' => e = .returned (.bool true) ∧ Below w.heap.size w w' := by
  have H := Lib.hid h
  have HB0 := Lib.hid (Below.refl w.heap.size w)
  have h2 := h.2.1
  unfold maxLen at h2
  have h1 := h.1
  clear h
  by_cases hs : 1048576 < len0
  · go_enter Try.func7, Try.ntmps7
    go_wp2_with fail
    go_ret
    exact ⟨rfl, HB0.out⟩
  · go_enter Try.func7, Try.ntmps7
    go_wp2_with fail
    refine (DrawFareShares_any _ _ _ _ H.out).mono ?_
    rintro e w1 ⟨T, g, n, c, ws, rfl, ⟨t0, t1⟩, hn, hc, hg, ho, hbd, hb⟩
    have HO := Lib.hid ho
    have HB1 := Lib.hid hb
    clear ho hb hbd
    have hN := mshN_le T ws n
    go_wp2_with fail
    refine (iFareShares_own T g n c ws w1 HO.out (by omega) hc).mono ?_
    rintro e w2 ⟨a2, c2, rfl, o2, b2⟩
    have hc2 := o2.le
    have HO2 := Lib.hid o2
    have HB2 := Lib.hid (bT HB1.out b2)
    have HC2 := Lib.hid b2
    clear o2 b2
    go_wp2_with fail
    refine (sFareShares_own T g n c ws w2 (HO.out.below HC2.out (Nat.le_refl _)) (by omega) hc).mono ?_
    rintro e w3 ⟨a3, c3, rfl, o3, b3⟩
    have hc3 := o3.le
    have HO3 := Lib.hid o3
    have HB3 := Lib.hid (bT HB2.out b3)
    have HC3 := Lib.hid (bT HC2.out b3)
    have HD3 := Lib.hid b3
    clear o3 b3
    go_wp2_with fail
    refine (wsInts_same a2 a3 (mshN T ws n) c2 c3 (mshF T ws n) w3 (HO2.out.inI.below HD3.out (Nat.le_refl _)) HO3.out.inI (by omega) hc2 hc3).mono ?_
    rintro e _ ⟨rfl, x4, rfl⟩
    have HI2 := Lib.hid ((HO2.out.inI.below HD3.out (Nat.le_refl _)).drewN x4)
    have HWS := Lib.hid ((HO.out.below HC3.out (Nat.le_refl _)).of_block (w' := w3.drewN x4) rfl)
    have HB5 := Lib.hid (bD HB3.out x4)
    obtain ⟨w5, hw5⟩ : ∃ w5, w5 = w3.drewN x4 := ⟨_, rfl⟩
    rw [← hw5] at HI2 HB5 HWS ⊢
    clear hw5
    cases hgg : shareG T ws n
    · have h0 : mshN T ws n = 0 := by simp [mshN, hgg]
      rw [h0]
      clear h0 hgg
      go_wp2_with fail
      go_loopw [6, 7] (fun s i w' => i = .int .i64 0 ∧ s = .int .i64 0 ∧ w' = w5) (fun _ _ _ => 0)
      case atStart => exact ⟨rfl, rfl, rfl⟩
      case round =>
        obtain ⟨rfl, rfl, rfl⟩ := hrel
        go_wp2_with fail
        go_ret
        exact ⟨rfl, HB5.out⟩
    · have h0 : mshN T ws n = n := by simp [mshN, hgg]
      rw [h0] at HI2 hc2 ⊢
      have HL := Lib.hid (msh_law hgg)
      have hn1 := HL.out.n1
      have nz : ((n : Int) == 0) = false := by simp; omega
      obtain ⟨F, hF⟩ : ∃ F, F = mshF T ws n := ⟨_, rfl⟩
      rw [← hF] at HL HI2
      obtain ⟨b, off, rfl, hi⟩ : ∃ b off, a2 = some ⟨b, off, none⟩ ∧ IntsAt w5 b off n F := by
        rcases HI2.out with h0 | h0
        · omega
        · exact h0
      have HI := Lib.hid hi
      clear hi HI2 HO2 h0 hgg hF
      go_wp2_with fail
      go_loopw [6, 7] (fun s i w' => ∃ k z : Nat, k ≤ n ∧ i = .int .i64 k ∧ s = .int .i64 (sumF F k) ∧ w' = w5.drewN z) (fun _ i _ => n - (intOf i).toNat)
      case atStart => exact ⟨0, 0, Nat.zero_le _, rfl, rfl, rfl⟩
      case round =>
        obtain ⟨k, z, hk, rfl, rfl, rfl⟩ := hrel
        have p1 := HL.out.part k hk
        by_cases hlt : k < n
        · have cf := HI.out.c k hlt
          have cw := HWS.out.cell hlt
          have q1 := HL.out.each k hlt
          have q2 := HL.out.w k hlt
          have x1 : (k : Int) < (n : Int) := by omega
          have HSS : Hid (sumF F (k + 1) = sumF F k + F k) := rfl
          go_wp2_with fail
          go_loopw [8] (fun i w' => ∃ j z : Nat, j ≤ n ∧ i = .int .i64 j ∧ w' = w5.drewN z) (fun i _ => n - (intOf i).toNat)
          case atStart => exact ⟨0, z, Nat.zero_le _, rfl, rfl⟩
          case round =>
            obtain ⟨j, z2, hj, rfl, rfl⟩ := hrel
            by_cases hlt2 : j < n
            · have cf2 := HI.out.c j hlt2
              have cw2 := HWS.out.cell hlt2
              have x2 : (j : Int) < (n : Int) := by omega
              by_cases hT : 0 ≤ T
              · by_cases hw : ws j < ws k
                · have ho := HL.out.order hT k j hlt hlt2 hw
                  have hoB : decide (F k < F j) = false := by simpa using ho
                  go_wp2_with fail
                  go_quiet (fail)
                  go_wp2_with fail
                  go_roundw
                  case rel => exact ⟨j + 1, _, by omega, by go_num, rfl⟩
                  case measure => simp [intOf]; omega
                · have hwB : decide (ws j < ws k) = false := by simpa using hw
                  go_wp2_with fail
                  go_quiet (fail)
                  go_wp2_with fail
                  go_roundw
                  case rel => exact ⟨j + 1, _, by omega, by go_num, rfl⟩
                  case measure => simp [intOf]; omega
              · have hTB : decide (0 ≤ T) = false := by simpa using hT
                go_wp2_with fail
                go_quiet (fail)
                go_wp2_with fail
                go_roundw
                case rel => exact ⟨j + 1, _, by omega, by go_num, rfl⟩
                case measure => simp [intOf]; omega
            · go_wp2_with fail
              go_roundw
              case rel => exact ⟨k + 1, _, by omega, by go_num, by rw [HSS.out], rfl⟩
              case measure => simp [intOf]; omega
        · have e : k = n := by omega
          subst e
          have hsum : (sumF F k == T) = true := by simp [HL.out.sum]
          go_wp2_with fail
          go_ret
          exact ⟨rfl, bD HB5.out z⟩

end My
end Go.Proofs.Ytmjemgelekceoaa
