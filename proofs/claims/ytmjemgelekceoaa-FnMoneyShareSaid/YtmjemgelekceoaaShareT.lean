/- The reference's MoneyShare, whole. -/
import Derived.Test.YtmjemgelekceoaaShareS
import Derived.Test.YtmjemgelekceoaaShareN
namespace Go.Proofs.Ytmjemgelekceoaa
open Go.RowKit Go.Deep
set_option linter.unusedVariables false
namespace My

theorem weight_yes {total : Int} {ws : Nat → Int} {n : Nat} (h : shareG total ws n = true) : weightV ws n = sumF ws n := by
  obtain ⟨h1, h2, h3, h4, h5, h6⟩ := range_wB h
  simp only [shareG, Bool.and_eq_true, decide_eq_true_eq] at h
  simp [weightV, h.1.1.1, h3, h5]
theorem weight_no {total : Int} {ws : Nat → Int} {n : Nat} (h : shareG total ws n = false) (hm : mOk total = true) (hs : (List.range n).all (wB ws) = true → 0 ≤ sumF ws n) : weightV ws n = 0 := by
  simp only [weightV]
  split
  · rename_i c
    simp only [Bool.and_eq_true, decide_eq_true_eq] at c
    have h0 := hs c.1.1
    rcases Int.lt_or_le 0 (sumF ws n) with h1 | h1
    · exfalso
      have : shareG total ws n = true := by
        have hi : inB (sumF ws n) 1 1000000 = true := inB_yes ⟨h1, c.2⟩
        simp [shareG, c.1.1, hm, c.1.2, hi]
      rw [this] at h; cases h
    · omega
  · rfl
theorem sum_nn {ws : Nat → Int} {n : Nat} (h : (List.range n).all (wB ws) = true) : 0 ≤ sumF ws n := (sumF_bd (b := 1000000) (by omega) n (wB_all h)).1

def negF (f : Nat → Int) (k i : Nat) : Int := if i < k then -(f i) else f i
theorem negF_at {f : Nat → Int} {k : Nat} : negF f k k = f k := by simp [negF]
theorem negF_set {f : Nat → Int} {k : Nat} (i : Nat) : setF (negF f k) k (-(f k)) i = negF f (k + 1) i := by
  simp only [setF, negF]
  by_cases h : i = k
  · subst h; simp
  · rw [if_neg h]
    by_cases h2 : i < k
    · rw [if_pos h2, if_pos (by omega)]
    · rw [if_neg h2, if_neg (by omega)]

set_option maxHeartbeats 4000000 in
theorem sMoneyShare_any (total : Int) (b off n cap : Nat) (ws : Nat → Int) (w : World) (h : n = 0 ∨ IntsAt w b off n ws) (hn : n ≤ 1048576) (hc : n ≤ cap) :
    Calls Try.prog 8 #[.int .i64 total, .slice (some ⟨b, off, none⟩) n cap] w fun e w' => ∃ v, e = .returned v ∧ SlRes w (mshN total ws n) (mshF total ws n) v w' := by
  have H := Lib.hid h
  clear h
  cases hg : shareG total ws n
  · have HN : Hid (mshN total ws n = 0) := by show mshN total ws n = 0; simp [mshN, hg]
    have hd : SlRes w 0 (mshF total ws n) (.slice (some ⟨w.heap.size, 0, none⟩) 0 0) (w.alloc (.cells #[] 3)) :=
      ⟨w.heap.size, 0, rfl, Nat.le_refl _, Nat.le_refl _, by simp [maxLen], (ownI_of_owns (owns_empty (f := mshF total ws n) (Nat.le_refl _))).1, (Below.refl _ _).alloc (Nat.le_refl _) _⟩
    have HD := Lib.hid hd
    clear hd
    cases hm : mOk total
    · clear hg
      go_enter Try.func8, Try.ntmps8
      go_wp2_with (first | (go_at_call 19; ((with_reducible refine (l2Weights_any _ _ _ _ _ _ H.out hn hc).mono ?_); rintro e w' ⟨rfl, rfl⟩)) | (go_at_call 20; ((with_reducible refine (sMoneyOk_any _ _).mono ?_); rintro e w' ⟨rfl, rfl⟩)))
      go_ret
      exact ⟨_, rfl, by rw [HN.out]; exact HD.out⟩
    · have hz : (weightV ws n == 0) = true := by rw [weight_no hg hm sum_nn]; rfl
      clear hg
      go_enter Try.func8, Try.ntmps8
      go_wp2_with (first | (go_at_call 19; ((with_reducible refine (l2Weights_any _ _ _ _ _ _ H.out hn hc).mono ?_); rintro e w' ⟨rfl, rfl⟩)) | (go_at_call 20; ((with_reducible refine (sMoneyOk_any _ _).mono ?_); rintro e w' ⟨rfl, rfl⟩)))
      go_ret
      exact ⟨_, rfl, by rw [HN.out]; exact HD.out⟩
  · obtain ⟨hw, hm, h8, s0, s1, hn1⟩ := range_wB hg
    have HN : Hid (mshN total ws n = n) := by show mshN total ws n = n; simp [mshN, hg]
    have hi : IntsAt w b off n ws := by
      rcases H.out with h0 | h0
      · omega
      · exact h0
    have HI := Lib.hid hi
    have HW := Lib.hid hw
    have hwe := weight_yes hg
    have hz : (weightV ws n == 0) = false := by rw [hwe]; simp; omega
    obtain ⟨m0, m1⟩ := inB_true (show inB total (-1000000000000) 1000000000000 = true from hm)
    have HWE := Lib.hid hwe
    clear hg hi hw
    by_cases ht : 0 ≤ total
    · have HF : Hid (mshF total ws n = shareDone total (sumF ws n) ws n (restF total (sumF ws n) ws n).toNat) := by
        show mshF total ws n = _
        have e : absI total = total := by simp only [absI]; omega
        rw [mshF, e]
        funext i
        simp only [signF]
        rw [if_neg (by omega)]; rfl
      clear hwe
      go_enter Try.func8, Try.ntmps8
      go_wp2_with (first | (go_at_call 19; ((with_reducible refine (l2Weights_any _ _ _ _ _ _ H.out hn hc).mono ?_); rintro e w' ⟨rfl, rfl⟩)) | (go_at_call 20; ((with_reducible refine (sMoneyOk_any _ _).mono ?_); rintro e w' ⟨rfl, rfl⟩)) | (go_at_call 21; rw [HWE.out]; ((with_reducible refine (l2Share_any total (sumF ws n) b off n cap ws w HI.out hn1 h8 hc ht m1 s0 s1 HW.out).mono ?_); rintro e wD ⟨v, rfl, hres⟩; have HRES := Lib.hid hres; clear hres)))
      go_ret
      exact ⟨_, rfl, by rw [HN.out, HF.out]; exact HRES.out⟩
    · have HF : Hid (∀ i, mshF total ws n i = -(shareDone (-total) (sumF ws n) ws n (restF (-total) (sumF ws n) ws n).toNat i)) := by
        show ∀ i, mshF total ws n i = _
        intro i
        have e : absI total = -total := by simp only [absI]; omega
        rw [mshF, e]
        simp only [signF]
        rw [if_pos (by omega)]; rfl
      have HSF := Lib.hid (share_facts (T := -total) (by omega) (by omega) HW.out s0 hn1)
      clear hwe
      go_enter Try.func8, Try.ntmps8
      go_wp2_with (first | (go_at_call 19; ((with_reducible refine (l2Weights_any _ _ _ _ _ _ H.out hn hc).mono ?_); rintro e w' ⟨rfl, rfl⟩)) | (go_at_call 20; ((with_reducible refine (sMoneyOk_any _ _).mono ?_); rintro e w' ⟨rfl, rfl⟩)) | (go_at_call 21; rw [HWE.out]; ((with_reducible refine (l2Share_any (-total) (sumF ws n) b off n cap ws w HI.out hn1 h8 hc (by omega) (by omega) s0 s1 HW.out).mono ?_); rintro e wD ⟨v, rfl, g, c, rfl, hg, hc2, hc3, ho, hb⟩; have HO := Lib.hid ho; have HB := Lib.hid hb; clear ho hb)))
      obtain ⟨FF, hFF⟩ : ∃ FF, FF = shareDone (-total) (sumF ws n) ws n (restF (-total) (sumF ws n) ws n).toNat := ⟨_, rfl⟩
      rw [← hFF] at HO HF
      have hbd : ∀ i, i < n → 0 ≤ FF i ∧ FF i ≤ 1000000000000000008 := fun i hi => by have := HSF.out.2.2 i hi; rw [hFF]; change 0 ≤ shareF (-total) ws n i ∧ shareF (-total) ws n i ≤ _; omega
      have HBD := Lib.hid hbd
      clear hFF HSF hbd
      go_loopw [7] (fun i wr => ∃ k : Nat, k ≤ n ∧ i = .int .i64 k ∧ OwnI wr g n (negF FF k) ∧ Below w.heap.size w wr) (fun i _ => n - (intOf i).toNat)
      case atStart => exact ⟨0, Nat.zero_le _, rfl, HO.out.congr (fun i _ => rfl), HB.out⟩
      case round =>
        obtain ⟨k, hk, rfl, ho, hb⟩ := hrel
        clear HO HB
        have HO := Lib.hid ho
        have HB := Lib.hid hb
        clear ho hb
        by_cases hlt : k < n
        · have ck := HO.out.cell hlt
          rw [negF_at] at ck
          have fk := HO.out.frozen k
          have hkb := HBD.out k hlt
          go_wp2_with fail
          go_roundw
          case rel => exact ⟨k + 1, hlt, by go_num, (HO.out.set k _).congr (fun i _ => negF_set i), HB.out.setCell hg _⟩
          case measure => simp [intOf]; omega
        · have hkn : k = n := by omega
          go_wp2_with fail
          go_ret
          exact ⟨_, rfl, by rw [HN.out]; exact ⟨g, c, rfl, hg, hc2, hc3, HO.out.congr (fun i hi => by rw [HF.out i]; simp only [negF]; rw [if_pos (by omega)]), HB.out⟩⟩

end My
end Go.Proofs.Ytmjemgelekceoaa
