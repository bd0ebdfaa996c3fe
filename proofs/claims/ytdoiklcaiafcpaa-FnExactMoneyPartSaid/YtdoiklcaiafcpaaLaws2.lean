/- The walks of the laws on tiers: each returns true. -/
import Derived.Test.YtdoiklcaiafcpaaMarks
namespace Go.Proofs.Ytdoiklcaiafcpaa
open Go.RowKit Go.Deep
set_option linter.unusedVariables false
namespace My

set_option maxHeartbeats 2000000 in
theorem exTiers_core (n : Int) (a : Option Addr) (cap : Nat) (ms : List (Int × Int)) (w : World) (hl : ms.length ≤ maxLen)
    (hto : ms.length ≤ 1048576 → ∀ w', Below w.heap.size w w' → Calls Try.prog 29 #[.slice a ms.length cap] w' fun e w'' => e = .returned (.slice (some ⟨w'.heap.size, 0, none⟩) ms.length ms.length) ∧ w''.rowIs w'.heap.size 42 (ms.length * 2) (markCell ms) ∧ Below w'.heap.size w' w'') :
    Calls Try.prog 12 #[.int .i64 n, .slice a ms.length cap] w fun e w' => e = .returned (.bool true) ∧ Below w.heap.size w w' := by
  unfold maxLen at hl
  have HK := Lib.hid hto
  have HB := Lib.hid (Below.refl w.heap.size w)
  clear hto
  by_cases hs : ms.length ≤ 1048576
  · have hz : szN 1048576 ms.length = 1048576 - ms.length := szN_nn (by omega)
    have hz2 : 0 ≤ szN 1048576 ms.length := by omega
    have HZ := Lib.hid hz
    clear hz
    go_enter Try.func12, Try.ntmps12
    go_wp2_with fail
    refine (szMarkS_any _ _ _ _ _ (by omega) (by omega) (by omega)).mono ?_
    rintro e w' ⟨rfl, rfl⟩
    go_wp2_with fail
    ((with_reducible refine (HK.out hs _ HB.out).mono ?_); rintro e w1 ⟨rfl, r1, b1⟩; have Hr1 := Lib.hid r1; clear r1; have Hb1 := Lib.hid b1; clear b1)
    go_wp2_with fail
    ((with_reducible refine (sTiersOf_some n _ _ _ ms _ (marksAt_of_row Hr1.out) (by omega) (Nat.le_refl _)).mono ?_); rintro e w2 ⟨rfl, b2⟩; have Hb2 := Lib.hid b2; clear b2)
    have Hw2 := Lib.hid (bT Hb1.out Hb2.out)
    go_wp2_with fail
    ((with_reducible refine (HK.out hs _ Hw2.out).mono ?_); rintro e w3 ⟨rfl, r3, b3⟩; have Hr3 := Lib.hid r3; clear r3; have Hb3 := Lib.hid b3; clear b3)
    have Hw3 := Lib.hid (bT Hw2.out Hb3.out)
    go_wp2_with fail
    ((with_reducible refine (iTiersOf_some n _ _ _ ms _ (marksAt_of_row Hr3.out) (by omega) (Nat.le_refl _)).mono ?_); rintro e w4 ⟨rfl, b4⟩; have Hb4 := Lib.hid b4; clear b4)
    have Hw4 := Lib.hid (bT Hw3.out Hb4.out)
    go_wp2_with fail
    ((with_reducible refine (HK.out hs _ Hw4.out).mono ?_); rintro e w5 ⟨rfl, r5, b5⟩; have Hr5 := Lib.hid r5; clear r5; have Hb5 := Lib.hid b5; clear b5)
    have Hw5 := Lib.hid (bT Hw4.out Hb5.out)
    go_wp2_with fail
    ((with_reducible refine (eqMarkS_same _ _ _ _ _ _ ms _ ((marksAt_of_row Hr3.out).below (bT Hb4.out Hb5.out) (Nat.le_refl _)) (marksAt_of_row Hr5.out) hs (Nat.le_refl _) (Nat.le_refl _)).mono ?_); rintro e w6 ⟨rfl, b6⟩; have Hb6 := Lib.hid b6; clear b6)
    go_wp2_with fail
    go_ret
    exact ⟨rfl, bT Hw5.out Hb6.out⟩
  · have hz : szN 1048576 ms.length = -1 := szN_neg (by omega)
    have hz2 : szN 1048576 ms.length < 0 := by omega
    clear hz
    go_enter Try.func12, Try.ntmps12
    go_wp2_with (go_at_call 28; ((with_reducible refine (szMarkS_any _ _ _ _ _ (by omega) (by omega) (by omega)).mono ?_); rintro e w' ⟨rfl, rfl⟩))
    go_ret
    exact ⟨rfl, HB.out⟩

theorem FnExactTiersOf_walk (a0 : Int) (a1 : Option Addr) (len1 cap1 : Nat) (ms : List (Int × Int)) (w : World) (_w0 : (Lit.int .i64 a0).wf = true)
    (h : (len1 = 0 ∧ ms = []) ∨ ∃ b off, a1 = some ⟨b, off, none⟩ ∧ len1 = ms.length ∧ len1 ≤ cap1 ∧ len1 ≤ maxLen ∧ MarksAt w b off ms) :
    Calls Try.prog 12 #[.int .i64 a0, .slice a1 len1 cap1] w fun e w' => e = .returned (.bool true) ∧ Below w.heap.size w w' := by
  rcases h with ⟨rfl, rfl⟩ | ⟨b, off, rfl, rfl, hc, hl, hm⟩
  · exact exTiers_core a0 a1 cap1 [] w (by simp [maxLen]) (fun _ w' _ => toMarkS_nil a1 cap1 w')
  · exact exTiers_core a0 _ cap1 ms w hl (fun hs w' hb => toMarkS_some b off cap1 ms w' (hm.below hb (Nat.le_refl _)) hs hc)

theorem FnExactMoneyPart_walk (a0 a1 a2 : Int) (w : World) (_w0 : (Lit.int .i64 a0).wf = true) (_w1 : (Lit.int .i64 a1).wf = true) (_w2 : (Lit.int .i64 a2).wf = true) :
    Calls Try.prog 9 #[.int .i64 a0, .int .i64 a1, .int .i64 a2] w fun e w' => e = .returned (.bool true) ∧ Below w.heap.size w w' := by
  go_enter Try.func9, Try.ntmps9
  go_wp2_with (first | (go_at_call 22; ((with_reducible refine (sMoneyPart_any _ _ _ _).mono ?_); rintro e w' ⟨rfl, rfl⟩)) | (go_at_call 23; ((with_reducible refine (iMoneyPart_any _ _ _ _).mono ?_); rintro e w' ⟨rfl, k, rfl⟩)))
  go_ret
  exact ⟨rfl, below_drewN (Below.refl _ _) _⟩

end My
end Go.Proofs.Ytdoiklcaiafcpaa
