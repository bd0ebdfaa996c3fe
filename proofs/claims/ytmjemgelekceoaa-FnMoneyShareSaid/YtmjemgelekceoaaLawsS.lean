/- The exact laws on shares: each returns true. -/
import Derived.Test.YtmjemgelekceoaaOpenI
namespace Go.Proofs.Ytmjemgelekceoaa
open Go.RowKit Go.Deep
set_option linter.unusedVariables false
namespace My

theorem mshN_le (total : Int) (ws : Nat → Int) (n : Nat) : mshN total ws n ≤ n := by unfold mshN; split <;> omega
def ShPost (w : World) (total : Int) (ws : Nat → Int) (n : Nat) (e : Ending) (w' : World) : Prop :=
  ∃ a c, e = .returned (.slice a (mshN total ws n) c) ∧ OwnS w.heap.size w' a (mshN total ws n) c (mshF total ws n) ∧ Below w.heap.size w w'
theorem sMoneyShare_own (total : Int) (g n cap : Nat) (ws : Nat → Int) (w : World) (h : OwnI w g n ws) (hn : n ≤ 1048576) (hc : n ≤ cap) :
    Calls Try.prog 8 #[.int .i64 total, .slice (some ⟨g, 0, none⟩) n cap] w (ShPost w total ws n) := by
  refine (sMoneyShare_any total g 0 n cap ws w (Or.inr h.ints) hn hc).mono ?_
  rintro e w' ⟨v, rfl, hv⟩
  obtain ⟨a, c, rfl, k⟩ := ownS_of hv
  exact ⟨a, c, rfl, k⟩
theorem iMoneyShare_own (total : Int) (g n cap : Nat) (ws : Nat → Int) (w : World) (h : OwnI w g n ws) (hn : n ≤ 1048576) (hc : n ≤ cap) :
    Calls Try.prog 10 #[.int .i64 total, .slice (some ⟨g, 0, none⟩) n cap] w (ShPost w total ws n) := by
  refine (iMoneyShare_any total g 0 n cap ws w (Or.inr h.ints) hn hc).mono ?_
  rintro e w' ⟨v, rfl, hv⟩
  obtain ⟨a, c, rfl, k⟩ := ownS_ofI hv
  exact ⟨a, c, rfl, k⟩
theorem sFareShares_own (total : Int) (g n cap : Nat) (ws : Nat → Int) (w : World) (h : OwnI w g n ws) (hn : n ≤ 1048576) (hc : n ≤ cap) :
    Calls Try.prog 14 #[.int .i64 total, .slice (some ⟨g, 0, none⟩) n cap] w (ShPost w total ws n) := by
  have H := Lib.hid h
  clear h
  go_enter Try.func14, Try.ntmps14
  go_wp2_with (go_at_call 8; ((with_reducible refine (sMoneyShare_own _ _ _ _ _ _ H.out hn hc).mono ?_); rintro e w' ⟨a, c, rfl, ho, hb⟩; have HO := Lib.hid ho; clear ho))
  go_ret
  exact ⟨a, c, rfl, HO.out, hb⟩
theorem iFareShares_own (total : Int) (g n cap : Nat) (ws : Nat → Int) (w : World) (h : OwnI w g n ws) (hn : n ≤ 1048576) (hc : n ≤ cap) :
    Calls Try.prog 15 #[.int .i64 total, .slice (some ⟨g, 0, none⟩) n cap] w (ShPost w total ws n) := by
  have H := Lib.hid h
  clear h
  go_enter Try.func15, Try.ntmps15
  go_wp2_with (go_at_call 10; ((with_reducible refine (iMoneyShare_own _ _ _ _ _ _ H.out hn hc).mono ?_); rintro e w' ⟨a, c, rfl, ho, hb⟩; have HO := Lib.hid ho; clear ho))
  go_ret
  exact ⟨a, c, rfl, HO.out, hb⟩

theorem bM {B : Nat} {w w1 w2 : World} (h : Below w.heap.size w w1) (k : Below B w1 w2) (hB : w.heap.size ≤ B) : Below w.heap.size w w2 := h.trans (k.mono hB)
theorem bD {w w1 : World} (h : Below w.heap.size w w1) (z : Nat) : Below w.heap.size w (w1.drewN z) := below_drewN h z
theorem InI.drewN {w : World} {a : Option Addr} {n : Nat} {f : Nat → Int} (h : InI w a n f) (z : Nat) : InI (w.drewN z) a n f := h.below (below_drewN (Below.refl w.heap.size w) z) (Nat.le_refl _)
theorem OwnS.drewN {base : Nat} {w : World} {a : Option Addr} {m c : Nat} {f : Nat → Int} (h : OwnS base w a m c f) (z : Nat) : OwnS base (w.drewN z) a m c f := h.below (below_drewN (Below.refl w.heap.size w) z) (Nat.le_refl _)
theorem OwnI.inI {w : World} {g n : Nat} {f : Nat → Int} (h : OwnI w g n f) : InI w (some ⟨g, 0, none⟩) n f := Or.inr ⟨g, 0, rfl, h.ints⟩

set_option maxHeartbeats 4000000 in
theorem FnExactMoneyShare_walk (a0 : Int) (a1 : Option Addr) (len1 cap1 : Nat) (ws : Nat → Int) (w : World) (_w0 : (Lit.int .i64 a0).wf = true) (h : IntsIn w a1 len1 cap1 ws) :
    Calls Try.prog 3 #[.int .i64 a0, .slice a1 len1 cap1] w fun e w' => e = .returned (.bool true) ∧ Below w.heap.size w w' := by
  obtain ⟨hc, hmax, hin⟩ := h
  unfold maxLen at hmax
  have HI : Hid (∀ w', Below w.heap.size w w' → InI w' a1 len1 ws) := fun w' hb => hin.below hb (Nat.le_refl _)
  have HB0 := Lib.hid (Below.refl w.heap.size w)
  clear hin
  by_cases hs : len1 ≤ 1048576
  · have hN := mshN_le a0 ws len1
    obtain ⟨N, hNe⟩ : ∃ N, N = mshN a0 ws len1 := ⟨_, rfl⟩
    obtain ⟨F, hFe⟩ : ∃ F, F = mshF a0 ws len1 := ⟨_, rfl⟩
    have HS : Hid (∀ g cap w', OwnI w' g len1 ws → len1 ≤ cap → Calls Try.prog 8 #[.int .i64 a0, .slice (some ⟨g, 0, none⟩) len1 cap] w' fun e w'' => ∃ a c, e = .returned (.slice a N c) ∧ OwnS w'.heap.size w'' a N c F ∧ Below w'.heap.size w' w'') := by
      show ∀ g, _
      intro g cap w' ho hc'
      rw [hNe, hFe]; exact sMoneyShare_own a0 g len1 cap ws w' ho hs hc'
    have HP : Hid (∀ g cap w', OwnI w' g len1 ws → len1 ≤ cap → Calls Try.prog 10 #[.int .i64 a0, .slice (some ⟨g, 0, none⟩) len1 cap] w' fun e w'' => ∃ a c, e = .returned (.slice a N c) ∧ OwnS w'.heap.size w'' a N c F ∧ Below w'.heap.size w' w'') := by
      show ∀ g, _
      intro g cap w' ho hc'
      rw [hNe, hFe]; exact iMoneyShare_own a0 g len1 cap ws w' ho hs hc'
    rw [← hNe] at hN
    have hN2 : N ≤ 1048576 := by omega
    clear hNe hFe
    go_enter Try.func3, Try.ntmps3
    go_wp2_with fail
    refine (toIntS_any _ _ _ _ _ (HI.out _ HB0.out) hs hc).mono ?_
    rintro e w1 ⟨rfl, o1, b1⟩
    have HO1 := Lib.hid o1
    have HB1 := Lib.hid b1
    have z1 := b1.size
    clear o1 b1
    go_wp2_with fail
    refine (HS.out _ _ _ HO1.out (Nat.le_refl _)).mono ?_
    rintro e w2 ⟨a2, c2, rfl, o2, b2⟩
    have hc2 := o2.le
    have HO2 := Lib.hid o2
    have HB2 := Lib.hid (bT HB1.out b2)
    have z2 := b2.size
    clear o2 b2
    go_wp2_with fail
    refine (toIntS_any _ _ _ _ _ (HI.out _ HB2.out) hs hc).mono ?_
    rintro e w3 ⟨rfl, o3, b3⟩
    have HO3 := Lib.hid o3
    have HB3 := Lib.hid (bT HB2.out b3)
    have HC3 := Lib.hid b3
    have z3 := b3.size
    have z3' : w2.heap.size < w3.heap.size := o3.lt
    clear o3 b3
    go_wp2_with fail
    refine (HP.out _ _ _ HO3.out (Nat.le_refl _)).mono ?_
    rintro e w4 ⟨a4, c4, rfl, o4, b4⟩
    have hc4 := o4.le
    have HO4 := Lib.hid o4
    have HB4 := Lib.hid (bT HB3.out b4)
    have HC4 := Lib.hid (bT HC3.out b4)
    have HD4 := Lib.hid b4
    have z4 := b4.size
    clear o4 b4
    go_wp2_with fail
    refine (eqIntS_same a4 a2 N c4 c2 F _ HO4.out.inI (HO2.out.inI.below HC4.out (Nat.le_refl _)) hN2 hc4 hc2).mono ?_
    rintro e _ ⟨rfl, x4, rfl⟩
    go_wp2_with fail
    refine (toIntS_any _ _ _ _ _ (HI.out _ (bD HB4.out x4)) hs hc).mono ?_
    rintro e w5 ⟨rfl, o5, b5⟩
    have HO5 := Lib.hid o5
    have HB5 := Lib.hid (bT (bD HB4.out x4) b5)
    have HC5 := Lib.hid (bT (bD HC4.out x4) b5)
    have HD5 := Lib.hid (bT (bD HD4.out x4) b5)
    have HE5 := Lib.hid (bT (bD (Below.refl _ w4) x4) b5)
    have z5 : w4.heap.size ≤ w5.heap.size := b5.size
    clear o5 b5
    go_wp2_with fail
    refine (eqIntS_same _ _ len1 _ _ ws _ (HO3.out.inI.below HD5.out (Nat.le_refl _)) HO5.out.inI hs (Nat.le_refl _) (Nat.le_refl _)).mono ?_
    rintro e _ ⟨rfl, x5, rfl⟩
    go_wp2_with fail
    refine (markIntS_any w2.heap.size _ len1 _ ws (w5.drewN x5) ⟨Nat.le_refl _, Or.inr ⟨_, rfl, Nat.le_refl _, (HO3.out.below HD5.out (Nat.le_refl _)).of_block rfl⟩⟩ hs).mono ?_
    rintro e w6 ⟨rfl, o6, b6, n6⟩
    have HB6 := Lib.hid (bM (bD HB5.out x5) b6 (by omega))
    have HC6 := Lib.hid (bM (bD HC5.out x5) b6 (Nat.le_refl _))
    have HO46 := Lib.hid (((HO4.out.below HE5.out (Nat.le_refl _)).drewN x5).only (n6 _ rfl) z3')
    clear o6 b6 n6
    go_wp2_with fail
    refine (eqIntS_same a4 a2 N c4 c2 F _ HO46.out.inI (HO2.out.inI.below HC6.out (Nat.le_refl _)) hN2 hc4 hc2).mono ?_
    rintro e _ ⟨rfl, x6, rfl⟩
    go_wp2_with fail
    refine (markIntS_any w3.heap.size a4 N c4 F (w6.drewN x6) (HO46.out.drewN x6) hN2).mono ?_
    rintro e w7 ⟨rfl, o7, b7, _⟩
    have HO7 := Lib.hid o7
    have HB7 := Lib.hid (bM (bD HB6.out x6) b7 (by omega))
    have HC7 := Lib.hid (bM (bD HC6.out x6) b7 z3)
    clear o7 b7
    go_wp2_with fail
    refine (heldIntS_any a4 N c4 w7 HO7.out.inI hN2 hc4).mono ?_
    rintro e _ ⟨rfl, x7, rfl⟩
    go_wp2_with fail
    refine (toIntS_any _ _ _ _ _ (HI.out _ (bD HB7.out x7)) hs hc).mono ?_
    rintro e w8 ⟨rfl, o8, b8⟩
    have HO8 := Lib.hid o8
    have HB8 := Lib.hid (bT (bD HB7.out x7) b8)
    have HC8 := Lib.hid (bT (bD HC7.out x7) b8)
    have HE8 := Lib.hid (bT (bD (Below.refl _ w7) x7) b8)
    clear o8 b8
    go_wp2_with fail
    refine (HP.out _ _ _ HO8.out (Nat.le_refl _)).mono ?_
    rintro e w9 ⟨a9, c9, rfl, o9, b9⟩
    have hc9 := o9.le
    have HO9 := Lib.hid o9
    have HB9 := Lib.hid (bT HB8.out b9)
    have HC9 := Lib.hid (bT HC8.out b9)
    have HE9 := Lib.hid (bT HE8.out b9)
    clear o9 b9
    go_wp2_with fail
    refine (eqIntS_same a9 a2 N c9 c2 F _ HO9.out.inI (HO2.out.inI.below HC9.out (Nat.le_refl _)) hN2 hc9 hc2).mono ?_
    rintro e _ ⟨rfl, x9, rfl⟩
    go_wp2_with fail
    refine (heldIntS_any a4 N c4 (w9.drewN x9) ((HO7.out.inI.below HE9.out (Nat.le_refl _)).drewN x9) hN2 hc4).mono ?_
    rintro e _ ⟨rfl, x10, rfl⟩
    go_wp2_with fail
    go_ret
    exact ⟨rfl, bD HB9.out (x9 + x10)⟩
  · go_enter Try.func3, Try.ntmps3
    go_wp2_with fail
    go_ret
    exact ⟨rfl, HB0.out⟩

set_option maxHeartbeats 4000000 in
theorem FnExactFareShares_walk (a0 : Int) (a1 : Option Addr) (len1 cap1 : Nat) (ws : Nat → Int) (w : World) (_w0 : (Lit.int .i64 a0).wf = true) (h : IntsIn w a1 len1 cap1 ws) :
    Calls Try.prog 4 #[.int .i64 a0, .slice a1 len1 cap1] w fun e w' => e = .returned (.bool true) ∧ Below w.heap.size w w' := by
  obtain ⟨hc, hmax, hin⟩ := h
  unfold maxLen at hmax
  have HI : Hid (∀ w', Below w.heap.size w w' → InI w' a1 len1 ws) := fun w' hb => hin.below hb (Nat.le_refl _)
  have HB0 := Lib.hid (Below.refl w.heap.size w)
  clear hin
  by_cases hs : len1 ≤ 1048576
  · have hN := mshN_le a0 ws len1
    obtain ⟨N, hNe⟩ : ∃ N, N = mshN a0 ws len1 := ⟨_, rfl⟩
    obtain ⟨F, hFe⟩ : ∃ F, F = mshF a0 ws len1 := ⟨_, rfl⟩
    have HS : Hid (∀ g cap w', OwnI w' g len1 ws → len1 ≤ cap → Calls Try.prog 14 #[.int .i64 a0, .slice (some ⟨g, 0, none⟩) len1 cap] w' fun e w'' => ∃ a c, e = .returned (.slice a N c) ∧ OwnS w'.heap.size w'' a N c F ∧ Below w'.heap.size w' w'') := by
      show ∀ g, _
      intro g cap w' ho hc'
      rw [hNe, hFe]; exact sFareShares_own a0 g len1 cap ws w' ho hs hc'
    have HP : Hid (∀ g cap w', OwnI w' g len1 ws → len1 ≤ cap → Calls Try.prog 15 #[.int .i64 a0, .slice (some ⟨g, 0, none⟩) len1 cap] w' fun e w'' => ∃ a c, e = .returned (.slice a N c) ∧ OwnS w'.heap.size w'' a N c F ∧ Below w'.heap.size w' w'') := by
      show ∀ g, _
      intro g cap w' ho hc'
      rw [hNe, hFe]; exact iFareShares_own a0 g len1 cap ws w' ho hs hc'
    rw [← hNe] at hN
    have hN2 : N ≤ 1048576 := by omega
    clear hNe hFe
    go_enter Try.func4, Try.ntmps4
    go_wp2_with fail
    refine (toIntS_any _ _ _ _ _ (HI.out _ HB0.out) hs hc).mono ?_
    rintro e w1 ⟨rfl, o1, b1⟩
    have HO1 := Lib.hid o1
    have HB1 := Lib.hid b1
    have z1 := b1.size
    clear o1 b1
    go_wp2_with fail
    refine (HS.out _ _ _ HO1.out (Nat.le_refl _)).mono ?_
    rintro e w2 ⟨a2, c2, rfl, o2, b2⟩
    have hc2 := o2.le
    have HO2 := Lib.hid o2
    have HB2 := Lib.hid (bT HB1.out b2)
    have z2 := b2.size
    clear o2 b2
    go_wp2_with fail
    refine (toIntS_any _ _ _ _ _ (HI.out _ HB2.out) hs hc).mono ?_
    rintro e w3 ⟨rfl, o3, b3⟩
    have HO3 := Lib.hid o3
    have HB3 := Lib.hid (bT HB2.out b3)
    have HC3 := Lib.hid b3
    have z3 := b3.size
    have z3' : w2.heap.size < w3.heap.size := o3.lt
    clear o3 b3
    go_wp2_with fail
    refine (HP.out _ _ _ HO3.out (Nat.le_refl _)).mono ?_
    rintro e w4 ⟨a4, c4, rfl, o4, b4⟩
    have hc4 := o4.le
    have HO4 := Lib.hid o4
    have HB4 := Lib.hid (bT HB3.out b4)
    have HC4 := Lib.hid (bT HC3.out b4)
    have HD4 := Lib.hid b4
    have z4 := b4.size
    clear o4 b4
    go_wp2_with fail
    refine (eqIntS_same a4 a2 N c4 c2 F _ HO4.out.inI (HO2.out.inI.below HC4.out (Nat.le_refl _)) hN2 hc4 hc2).mono ?_
    rintro e _ ⟨rfl, x4, rfl⟩
    go_wp2_with fail
    refine (toIntS_any _ _ _ _ _ (HI.out _ (bD HB4.out x4)) hs hc).mono ?_
    rintro e w5 ⟨rfl, o5, b5⟩
    have HO5 := Lib.hid o5
    have HB5 := Lib.hid (bT (bD HB4.out x4) b5)
    have HC5 := Lib.hid (bT (bD HC4.out x4) b5)
    have HD5 := Lib.hid (bT (bD HD4.out x4) b5)
    have HE5 := Lib.hid (bT (bD (Below.refl _ w4) x4) b5)
    have z5 : w4.heap.size ≤ w5.heap.size := b5.size
    clear o5 b5
    go_wp2_with fail
    refine (eqIntS_same _ _ len1 _ _ ws _ (HO3.out.inI.below HD5.out (Nat.le_refl _)) HO5.out.inI hs (Nat.le_refl _) (Nat.le_refl _)).mono ?_
    rintro e _ ⟨rfl, x5, rfl⟩
    go_wp2_with fail
    refine (markIntS_any w2.heap.size _ len1 _ ws (w5.drewN x5) ⟨Nat.le_refl _, Or.inr ⟨_, rfl, Nat.le_refl _, (HO3.out.below HD5.out (Nat.le_refl _)).of_block rfl⟩⟩ hs).mono ?_
    rintro e w6 ⟨rfl, o6, b6, n6⟩
    have HB6 := Lib.hid (bM (bD HB5.out x5) b6 (by omega))
    have HC6 := Lib.hid (bM (bD HC5.out x5) b6 (Nat.le_refl _))
    have HO46 := Lib.hid (((HO4.out.below HE5.out (Nat.le_refl _)).drewN x5).only (n6 _ rfl) z3')
    clear o6 b6 n6
    go_wp2_with fail
    refine (eqIntS_same a4 a2 N c4 c2 F _ HO46.out.inI (HO2.out.inI.below HC6.out (Nat.le_refl _)) hN2 hc4 hc2).mono ?_
    rintro e _ ⟨rfl, x6, rfl⟩
    go_wp2_with fail
    refine (markIntS_any w3.heap.size a4 N c4 F (w6.drewN x6) (HO46.out.drewN x6) hN2).mono ?_
    rintro e w7 ⟨rfl, o7, b7, _⟩
    have HO7 := Lib.hid o7
    have HB7 := Lib.hid (bM (bD HB6.out x6) b7 (by omega))
    have HC7 := Lib.hid (bM (bD HC6.out x6) b7 z3)
    clear o7 b7
    go_wp2_with fail
    refine (heldIntS_any a4 N c4 w7 HO7.out.inI hN2 hc4).mono ?_
    rintro e _ ⟨rfl, x7, rfl⟩
    go_wp2_with fail
    refine (toIntS_any _ _ _ _ _ (HI.out _ (bD HB7.out x7)) hs hc).mono ?_
    rintro e w8 ⟨rfl, o8, b8⟩
    have HO8 := Lib.hid o8
    have HB8 := Lib.hid (bT (bD HB7.out x7) b8)
    have HC8 := Lib.hid (bT (bD HC7.out x7) b8)
    have HE8 := Lib.hid (bT (bD (Below.refl _ w7) x7) b8)
    clear o8 b8
    go_wp2_with fail
    refine (HP.out _ _ _ HO8.out (Nat.le_refl _)).mono ?_
    rintro e w9 ⟨a9, c9, rfl, o9, b9⟩
    have hc9 := o9.le
    have HO9 := Lib.hid o9
    have HB9 := Lib.hid (bT HB8.out b9)
    have HC9 := Lib.hid (bT HC8.out b9)
    have HE9 := Lib.hid (bT HE8.out b9)
    clear o9 b9
    go_wp2_with fail
    refine (eqIntS_same a9 a2 N c9 c2 F _ HO9.out.inI (HO2.out.inI.below HC9.out (Nat.le_refl _)) hN2 hc9 hc2).mono ?_
    rintro e _ ⟨rfl, x9, rfl⟩
    go_wp2_with fail
    refine (heldIntS_any a4 N c4 (w9.drewN x9) ((HO7.out.inI.below HE9.out (Nat.le_refl _)).drewN x9) hN2 hc4).mono ?_
    rintro e _ ⟨rfl, x10, rfl⟩
    go_wp2_with fail
    go_ret
    exact ⟨rfl, bD HB9.out (x9 + x10)⟩
  · go_enter Try.func4, Try.ntmps4
    go_wp2_with fail
    go_ret
    exact ⟨rfl, HB0.out⟩

end My
end Go.Proofs.Ytmjemgelekceoaa
