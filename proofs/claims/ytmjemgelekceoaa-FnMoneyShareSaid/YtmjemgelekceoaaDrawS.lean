/- The drawing functions of shares; wsInts. -/
import Derived.Test.YtmjemgelekceoaaWeights
namespace Go.Proofs.Ytmjemgelekceoaa
open Go.RowKit Go.Deep
set_option linter.unusedVariables false
namespace My

theorem rdX_of {w : World} {R K : Nat} (h : RdInv w R K) : ∃ a len cap, RdX w R K a len cap ∧ (len = 0 ∨ ∀ b, a = some b → b.block < w.heap.size) := by
  obtain ⟨p, a, len, cap, hp, hr⟩ := h
  refine ⟨a, len, cap, ⟨p, hp, hr⟩, ?_⟩
  rcases hr.bytes with h0 | ⟨b, off, rfl, _, hb, _⟩
  · exact Or.inl h0
  · exact Or.inr (fun b' hb' => by cases hb'; exact hb)
/-- An amount and weights. -/
def SharePost (w : World) (e : Ending) (w' : World) : Prop :=
  ∃ (T : Int) (g n c : Nat) (ws : Nat → Int), e = .returned (.tuple #[.int .i64 T, .slice (some ⟨g, 0, none⟩) n c]) ∧ (-1000000000000 ≤ T ∧ T ≤ 1000000000000) ∧ n ≤ 9 ∧ n ≤ c ∧ w.heap.size ≤ g ∧ OwnI w' g n ws ∧ (∀ i, i < n → -1 ≤ ws i ∧ ws i ≤ 1000001) ∧ Below w.heap.size w w'

set_option maxRecDepth 100000 in
set_option maxHeartbeats 4000000 in
theorem DrawMoneyShare_any (a : Option Addr) (len cap : Nat) (wB : World) (h : BytesIn wB a len cap) :
    Calls Try.prog 16 #[.slice a len cap] wB (SharePost wB) := by
  go_enter Try.func16, Try.ntmps16
  go_wp2_with fail
  refine (l1Open_any _ _ _ _ h).mono ?_
  rintro e w ⟨rfl, hi, hb⟩
  have HI := Lib.hid hi
  have HB := Lib.hid hb
  obtain ⟨R, hR⟩ : ∃ R, R = wB.heap.size := ⟨_, rfl⟩
  rw [← hR] at HI ⊢
  have HRR := Lib.hid hR
  have HO := Lib.hid (Only.refl R w)
  clear hi hb hR
  go_wp2_with fail
  refine (amount_at (by repeat (first | exact HI.out | apply RdInv.drewN | apply RdInv.drew | apply RdInv.alloc)) (by omega)).mono ?_
  rintro e w1 ⟨T, rfl, t0, t1, hi1, ho1⟩
  obtain ⟨a1, len1, cap1, hx, hf⟩ := rdX_of hi1
  have HX := Lib.hid hx
  have HF := Lib.hid hf
  have HB1 := Lib.hid (drawn_below HRR.out HB.out ho1)
  clear hi1 ho1 hx hf HI HO
  go_wp2_with fail
  refine (l14Weights_any R _ a1 len1 cap1 w1 (by omega) HX.out HF.out).mono ?_
  rintro e w2 ⟨g, n, c, ws, rfl, hn, hc, hg, ho, hbd, _, hon⟩
  have HO := Lib.hid ho
  have HBD := Lib.hid hbd
  have HB2 := Lib.hid (drawn_below HRR.out HB1.out hon)
  have hg2 := HB1.out.size
  clear ho hbd hon
  go_wp2_with fail
  go_ret2
  exact ⟨T, g, n, c, ws, rfl, ⟨t0, t1⟩, hn, hc, by omega, HO.out, HBD.out, HB2.out⟩

set_option maxRecDepth 100000 in
theorem DrawFareShares_any (a : Option Addr) (len cap : Nat) (wB : World) (h : BytesIn wB a len cap) :
    Calls Try.prog 18 #[.slice a len cap] wB (SharePost wB) := by
  have H := Lib.hid h
  clear h
  go_enter Try.func18, Try.ntmps18
  go_wp2_with fail
  refine (DrawMoneyShare_any _ _ _ _ H.out).mono ?_
  rintro e w ⟨T, g, n, c, ws, rfl, hT, hn, hc, hg, ho, hbd, hb⟩
  have HO := Lib.hid ho
  have HBD := Lib.hid hbd
  have HB := Lib.hid hb
  clear ho hbd hb
  go_wp2_with fail
  go_ret2
  exact ⟨T, g, n, c, ws, rfl, hT, hn, hc, hg, HO.out, HBD.out, HB.out⟩

set_option maxHeartbeats 1000000 in
theorem wsInts_same (a a' : Option Addr) (n cap cap' : Nat) (f : Nat → Int) (w : World) (h : InI w a n f) (h' : InI w a' n f) (hn : n ≤ 1048576) (hc : n ≤ cap) (hc' : n ≤ cap') :
    Calls Try.prog 17 #[.slice a n cap, .slice a' n cap'] w fun e w' => e = .returned (.bool true) ∧ ∃ z, w' = w.drewN z := by
  have H := Lib.hid h
  have H' := Lib.hid h'
  clear h h'
  go_enter Try.func17, Try.ntmps17
  go_wp2_with fail
  go_loopw [5] (fun i w' => ∃ k z : Nat, k ≤ n ∧ i = .int .i64 k ∧ w' = w.drewN z) (fun i _ => n - (intOf i).toNat)
  case atStart => exact ⟨0, 0, Nat.zero_le _, rfl, rfl⟩
  case round =>
    obtain ⟨k, z, hk, rfl, rfl⟩ := hrel
    by_cases hlt : k < n
    · obtain ⟨b, off, rfl, hi⟩ : ∃ b off, a = some ⟨b, off, none⟩ ∧ IntsAt w b off n f := by
        rcases H.out with h0 | h0
        · omega
        · exact h0
      obtain ⟨b', off', rfl, hi'⟩ : ∃ b off, a' = some ⟨b, off, none⟩ ∧ IntsAt w b off n f := by
        rcases H'.out with h0 | h0
        · omega
        · exact h0
      have cf := hi.c k hlt
      have cf' := hi'.c k hlt
      have x1 : (k : Int) < (n : Int) := by omega
      have ff : (f k != f k) = false := by simp
      clear hi hi'
      go_wp2_with fail
      go_quiet (fail)
      go_wp2_with fail
      go_roundw
      case rel => exact ⟨k + 1, _, by omega, by go_num, rfl⟩
      case measure => simp [intOf]; omega
    · go_wp2_with fail
      go_ret
      exact ⟨rfl, z, rfl⟩

end My
end Go.Proofs.Ytmjemgelekceoaa
