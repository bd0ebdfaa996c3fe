/- FnWireText: the walk. -/
import Derived.Test.YtopijgkmgpkmnaaDoorWireT
namespace Go.Proofs.YtopijgkmgpkmnaaDoor
open Go.RowKit Go.Deep
set_option linter.unusedVariables false
namespace My

set_option maxHeartbeats 1000000 in
theorem wsWords_same (a a' : Option Addr) (n cap cap' : Nat) (F : Nat → ByteArray) (w : World) (h : InS w a n F) (h' : InS w a' n F) (hn : n ≤ 1048576) (hc : n ≤ cap) (hc' : n ≤ cap') :
    Calls Tryd.prog 30 #[.slice a n cap, .slice a' n cap'] w fun e w' => e = .returned (.bool true) ∧ ∃ z, w' = w.drewN z := by
  have H := Lib.hid h
  have H' := Lib.hid h'
  clear h h'
  go_enter Tryd.func30, Tryd.ntmps30
  go_wp2_with fail
  go_loopw [5] (fun i w' => ∃ k z : Nat, k ≤ n ∧ i = .int .i64 k ∧ w' = w.drewN z) (fun i _ => n - (intOf i).toNat)
  case atStart => exact ⟨0, 0, Nat.zero_le _, rfl, rfl⟩
  case round =>
    obtain ⟨k, z, hk, rfl, rfl⟩ := hrel
    by_cases hlt : k < n
    · obtain ⟨b, off, rfl, hi⟩ : ∃ b off, a = some ⟨b, off, none⟩ ∧ StrsAt w b off n F := by
        rcases H.out with h0 | h0
        · omega
        · exact h0
      obtain ⟨b', off', rfl, hi'⟩ : ∃ b off, a' = some ⟨b, off, none⟩ ∧ StrsAt w b off n F := by
        rcases H'.out with h0 | h0
        · omega
        · exact h0
      have cf := hi.c k hlt
      have cf' := hi'.c k hlt
      have x1 : (k : Int) < (n : Int) := by omega
      clear hi hi'
      go_wp2_with fail
      go_quiet (fail)
      go_wp2_with fail
      go_roundw
      case rel => exact ⟨k + 1, _, by omega, by go_num, rfl⟩
      case measure => simp [intOf]; omega
    · go_wp2_with fail
      go_ret
      exact ⟨rfl, z, rfl⟩

theorem putL_sum (F : Nat → ByteArray) : ∀ n, sumZ F n ≤ (putL F n).length
  | 0 => Nat.le_refl _
  | n + 1 => by
    have := putL_sum F n
    have e : (F n).data.toList.length = (F n).size := by simp
    simp only [sumZ, putL, word1, List.length_append, List.length_cons, List.length_nil]
    omega
theorem IsW.put {T : List UInt8} {F : Nat → ByteArray} {n : Nat} (h : IsW T F n) : wpT F n = T := by
  obtain ⟨rfl, h1, h2⟩ := h
  unfold wpT
  rw [if_pos ⟨h1, h2⟩]
theorem put_law (F : Nat → ByteArray) (n : Nat) : (0 < n ∧ wpT F n = []) ∨ IsW (wpT F n) F n := by
  by_cases h : wpT F n = []
  · rcases Nat.eq_zero_or_pos n with h0 | h0
    · refine Or.inr ?_
      subst h0
      simp [wpT, IsW, putL]
    · exact Or.inl ⟨h0, h⟩
  · refine Or.inr ?_
    unfold wpT at h ⊢
    split at h
    · rename_i hc
      rw [if_pos hc]
      exact ⟨rfl, hc.1, hc.2⟩
    · exact absurd rfl h
theorem put_isW {F : Nat → ByteArray} {n : Nat} (h : n = 0 ∨ wpT F n ≠ []) : IsW (wpT F n) F n := by
  rcases h with rfl | h
  · unfold wpT
    simp [IsW, putL]
  · unfold wpT at h ⊢
    split at h
    · rename_i hc
      rw [if_pos hc]
      exact ⟨rfl, hc.1, hc.2⟩
    · exact absurd rfl h

set_option maxRecDepth 100000 in
set_option maxHeartbeats 4000000 in
theorem FnWireText_walk (a0 : Option Addr) (len0 cap0 : Nat) (z0 : Unit) (a1 : Option Addr) (len1 cap1 : Nat) (z1 : Unit) (w : World) (h : BytesIn w a0 len0 cap0) (h' : BytesIn w a1 len1 cap1) (henv : Env5 w) :
    Calls Tryd.prog 8 #[.slice a0 len0 cap0, .slice a1 len1 cap1] w fun e w' => e = .returned (.bool true) ∧ Below w.heap.size w w' := by
  have HE := Lib.hid (show EnvN w from henv)
  have H := Lib.hid h
  have H' := Lib.hid h'
  have HB0 := Lib.hid (Below.refl w.heap.size w)
  have h2 := h.2.1
  have h2' := h'.2.1
  unfold maxLen at h2 h2'
  have h1 := h.1
  have h1' := h'.1
  clear h h' henv
  by_cases hs : 1048576 < len0
  · go_enter Tryd.func8, Tryd.ntmps8
    go_wp2_with fail
    go_ret
    exact ⟨rfl, HB0.out⟩
  by_cases hs' : 1048576 < len1
  · go_enter Tryd.func8, Tryd.ntmps8
    go_wp2_with fail
    go_ret
    exact ⟨rfl, HB0.out⟩
  go_enter Tryd.func8, Tryd.ntmps8
  go_wp2_with fail
  refine (DrawWireGet_any _ _ _ _ H.out).mono ?_
  rintro e w1 ⟨t, rfl, ht, hb⟩
  have HB1 := Lib.hid hb
  clear hb
  go_wp2_with fail
  refine (iWireGet_any t w1 (by omega) (HE.out.below HB1.out)).mono ?_
  rintro e w2 hp
  obtain ⟨a, n, cap, b, F, rfl, ho, hn, hb, hc⟩ := getPost_own hp
  have HO2 := Lib.hid ho
  have HB2 := Lib.hid (bT HB1.out hb)
  have HC := Lib.hid hc
  have hcap := ho.le
  clear hp ho hb hc
  go_wp2_with fail
  refine (sWireGet_any t w2 (by omega)).mono ?_
  rintro e w3 hp
  obtain ⟨a', n', cap', b', G, rfl, ho, hn', hb, hc⟩ := getPost_own hp
  obtain ⟨rfl, rfl, hFG⟩ := getPost_same HC.out hc
  have HIN := Lib.hid (ho.inS.congr (fun i hi => (hFG i hi).symm))
  have HO3 := Lib.hid (HO2.out.below hb (Nat.le_refl _))
  have HB3 := Lib.hid (bT HB2.out hb)
  have hcap' := ho.le
  clear hp ho hb hc hFG
  have HWS := Lib.hid (wsWords_same a a' n cap cap' F w3 HO3.out.inS HIN.out (by omega) hcap hcap')
  have hput : b = true → wpT F n = t.data.toList := by
    intro hb
    rcases HC.out with ⟨_, hw⟩ | ⟨hf, _⟩
    · exact hw.put
    · rw [hb] at hf; cases hf
  have hz : b = true → sumZ F n ≤ 1048576 := by
    intro hb
    rcases HC.out with ⟨_, hw⟩ | ⟨hf, _⟩
    · have := putL_sum F n
      have e1 := hw.1
      have e2 := hw.2.2
      rw [e1] at e2
      omega
    · rw [hb] at hf; cases hf
  have HPUT : Hid (b = true → ∀ wx, Below w3.heap.size w3 wx → Calls Tryd.prog 15 #[.slice a n cap] wx fun e w' => e = .returned (.string t) ∧ Below wx.heap.size wx w') := by
    intro hb wx hbx
    have := iWirePut_any a n cap F wx (HO3.out.inS.below hbx (Nat.le_refl _)) (by omega) hcap (hz hb) (HE.out.below (bT HB3.out hbx)).t
    rw [hput hb] at this
    refine this.mono ?_
    rintro e w' ⟨rfl, hb'⟩
    exact ⟨ret_txt (data_txt t), hb'⟩
  clear hput hz
  cases b with
  | false =>
    go_wp2_with fail
    refine HWS.out.mono ?_
    rintro e _ ⟨rfl, z, rfl⟩
    have HB4 := Lib.hid (below_drewN HB3.out z)
    go_wp2_with fail
    refine (DrawWirePut_any _ _ _ _ (H'.out.below HB4.out)).mono ?_
    rintro e w5 ⟨g, m, c, D, rfl, hm, hmc, ho, hD, hg, hb⟩
    have HO5 := Lib.hid ho
    have HB5 := Lib.hid (bT HB4.out hb)
    have hzD : sumZ D m ≤ 1048576 := by have := sumZ_bound hD m (Nat.le_refl _); omega
    clear ho hD hb HWS HPUT HO2 HO3 HIN HC
    go_wp2_with fail
    refine (iWirePut_any _ m c D w5 HO5.out.inS (by omega) hmc hzD (HE.out.below HB5.out).t).mono ?_
    rintro e w6 ⟨rfl, hb⟩
    have HO6 := Lib.hid (HO5.out.below hb (Nat.le_refl _))
    have HB6 := Lib.hid (bT HB5.out hb)
    clear hb
    have hsz : (txt (wpT D m)).size ≤ 6000 := wpT_size
    have hlaw : (0 < m ∧ wpT D m = []) ∨ IsW (wpT D m) D m := put_law D m
    have HSP := Lib.hid (fun wx hi => sWirePut_any (some ⟨g, 0, none⟩) m c D wx hi (by omega) hmc hzD)
    obtain ⟨X, hX⟩ : ∃ X, X = wpT D m := ⟨_, rfl⟩
    rw [← hX] at hsz hlaw HSP
    rw [← hX]
    clear hX
    go_wp2_with fail
    refine (iWireGet_any (txt X) w6 (by omega) (HE.out.below HB6.out)).mono ?_
    rintro e w7 hp
    obtain ⟨a7, n7, cap7, b7, F7, rfl, ho, hn7, hb, hc⟩ := getPost_own hp
    rw [txt_data] at hc
    have HO7 := Lib.hid (HO6.out.below hb (Nat.le_refl _))
    have HQ7 := Lib.hid ho
    have HB7 := Lib.hid (bT HB6.out hb)
    have HC7 := Lib.hid hc
    have hcap7 := ho.le
    clear hp ho hb hc
    rcases hlaw with ⟨hm0, rfl⟩ | hw
    · have hE : txt [] = (⟨#[]⟩ : ByteArray) := rfl
      rw [hE]
      clear hE
      go_wp2_with fail
      refine (HSP.out _ HO7.out.inS).mono ?_
      rintro e w8 ⟨rfl, hb⟩
      have HB8 := Lib.hid (bT HB7.out hb)
      clear hb
      rw [show txt [] = (⟨#[]⟩ : ByteArray) from rfl]
      go_wp2_with fail
      go_ret
      exact ⟨rfl, HB8.out⟩
    · obtain ⟨rfl, rfl, hFG⟩ := getPost_same HC7.out (Or.inl ⟨rfl, hw⟩)
      have HFG := Lib.hid hFG
      clear hFG
      by_cases hX0 : X = []
      · have hm0 : n7 = 0 := by
          cases n7 with
          | zero => rfl
          | succ k =>
            have := hw.1
            rw [hX0, putL_cons] at this
            exact absurd this.symm (word_ne _ _)
        subst hX0 hm0
        clear hw
        rw [show txt [] = (⟨#[]⟩ : ByteArray) from rfl]
        go_wp2_with fail
        refine (HSP.out _ HO7.out.inS).mono ?_
        rintro e w8 ⟨rfl, hb⟩
        have HB8 := Lib.hid (bT HB7.out hb)
        have HWS := Lib.hid (wsWords_same a7 (some ⟨g, 0, none⟩) 0 cap7 c D w8 (Or.inl rfl) (Or.inl rfl) (by omega) hcap7 hmc)
        clear hb
        rw [show txt [] = (⟨#[]⟩ : ByteArray) from rfl]
        go_wp2_with fail
        refine HWS.out.mono ?_
        rintro e _ ⟨rfl, z9, rfl⟩
        go_wp2_with fail
        go_ret
        exact ⟨rfl, below_drewN HB8.out z9⟩
      · have hne : (txt X).toList.isEmpty = false := by
          rw [Lib.toList_data, txt_data]
          cases X with
          | nil => exact absurd rfl hX0
          | cons x l => rfl
        clear hw hX0
        go_wp2_with fail
        refine (HSP.out _ HO7.out.inS).mono ?_
        rintro e w8 ⟨rfl, hb⟩
        have HB8 := Lib.hid (bT HB7.out hb)
        have HWS := Lib.hid (wsWords_same a7 (some ⟨g, 0, none⟩) n7 cap7 c D w8 (((HQ7.out.inS).congr HFG.out).below hb (Nat.le_refl _)) (HO7.out.inS.below hb (Nat.le_refl _)) (by omega) hcap7 hmc)
        clear hb
        go_wp2_with fail
        refine HWS.out.mono ?_
        rintro e _ ⟨rfl, z9, rfl⟩
        go_wp2_with fail
        go_ret
        exact ⟨rfl, below_drewN HB8.out z9⟩
  | true =>
    have HPUT2 := Lib.hid (HPUT.out rfl)
    go_wp2_with fail
    refine HWS.out.mono ?_
    rintro e _ ⟨rfl, z, rfl⟩
    go_wp2_with fail
    refine (HPUT2.out _ (below_drewN (Below.refl _ _) z)).mono ?_
    rintro e w4 ⟨rfl, hb⟩
    have HB4 := Lib.hid (bT (below_drewN HB3.out z) hb)
    clear hb
    go_wp2_with fail
    refine (DrawWirePut_any _ _ _ _ (H'.out.below HB4.out)).mono ?_
    rintro e w5 ⟨g, m, c, D, rfl, hm, hmc, ho, hD, hg, hb⟩
    have HO5 := Lib.hid ho
    have HB5 := Lib.hid (bT HB4.out hb)
    have hzD : sumZ D m ≤ 1048576 := by have := sumZ_bound hD m (Nat.le_refl _); omega
    clear ho hD hb HWS HPUT HO2 HO3 HIN HC
    go_wp2_with fail
    refine (iWirePut_any _ m c D w5 HO5.out.inS (by omega) hmc hzD (HE.out.below HB5.out).t).mono ?_
    rintro e w6 ⟨rfl, hb⟩
    have HO6 := Lib.hid (HO5.out.below hb (Nat.le_refl _))
    have HB6 := Lib.hid (bT HB5.out hb)
    clear hb
    have hsz : (txt (wpT D m)).size ≤ 6000 := wpT_size
    have hlaw : (0 < m ∧ wpT D m = []) ∨ IsW (wpT D m) D m := put_law D m
    have HSP := Lib.hid (fun wx hi => sWirePut_any (some ⟨g, 0, none⟩) m c D wx hi (by omega) hmc hzD)
    obtain ⟨X, hX⟩ : ∃ X, X = wpT D m := ⟨_, rfl⟩
    rw [← hX] at hsz hlaw HSP
    rw [← hX]
    clear hX
    go_wp2_with fail
    refine (iWireGet_any (txt X) w6 (by omega) (HE.out.below HB6.out)).mono ?_
    rintro e w7 hp
    obtain ⟨a7, n7, cap7, b7, F7, rfl, ho, hn7, hb, hc⟩ := getPost_own hp
    rw [txt_data] at hc
    have HO7 := Lib.hid (HO6.out.below hb (Nat.le_refl _))
    have HQ7 := Lib.hid ho
    have HB7 := Lib.hid (bT HB6.out hb)
    have HC7 := Lib.hid hc
    have hcap7 := ho.le
    clear hp ho hb hc
    rcases hlaw with ⟨hm0, rfl⟩ | hw
    · have hE : txt [] = (⟨#[]⟩ : ByteArray) := rfl
      rw [hE]
      clear hE
      go_wp2_with fail
      refine (HSP.out _ HO7.out.inS).mono ?_
      rintro e w8 ⟨rfl, hb⟩
      have HB8 := Lib.hid (bT HB7.out hb)
      clear hb
      rw [show txt [] = (⟨#[]⟩ : ByteArray) from rfl]
      go_wp2_with fail
      go_ret
      exact ⟨rfl, HB8.out⟩
    · obtain ⟨rfl, rfl, hFG⟩ := getPost_same HC7.out (Or.inl ⟨rfl, hw⟩)
      have HFG := Lib.hid hFG
      clear hFG
      by_cases hX0 : X = []
      · have hm0 : n7 = 0 := by
          cases n7 with
          | zero => rfl
          | succ k =>
            have := hw.1
            rw [hX0, putL_cons] at this
            exact absurd this.symm (word_ne _ _)
        subst hX0 hm0
        clear hw
        rw [show txt [] = (⟨#[]⟩ : ByteArray) from rfl]
        go_wp2_with fail
        refine (HSP.out _ HO7.out.inS).mono ?_
        rintro e w8 ⟨rfl, hb⟩
        have HB8 := Lib.hid (bT HB7.out hb)
        have HWS := Lib.hid (wsWords_same a7 (some ⟨g, 0, none⟩) 0 cap7 c D w8 (Or.inl rfl) (Or.inl rfl) (by omega) hcap7 hmc)
        clear hb
        rw [show txt [] = (⟨#[]⟩ : ByteArray) from rfl]
        go_wp2_with fail
        refine HWS.out.mono ?_
        rintro e _ ⟨rfl, z9, rfl⟩
        go_wp2_with fail
        go_ret
        exact ⟨rfl, below_drewN HB8.out z9⟩
      · have hne : (txt X).toList.isEmpty = false := by
          rw [Lib.toList_data, txt_data]
          cases X with
          | nil => exact absurd rfl hX0
          | cons x l => rfl
        clear hw hX0
        go_wp2_with fail
        refine (HSP.out _ HO7.out.inS).mono ?_
        rintro e w8 ⟨rfl, hb⟩
        have HB8 := Lib.hid (bT HB7.out hb)
        have HWS := Lib.hid (wsWords_same a7 (some ⟨g, 0, none⟩) n7 cap7 c D w8 (((HQ7.out.inS).congr HFG.out).below hb (Nat.le_refl _)) (HO7.out.inS.below hb (Nat.le_refl _)) (by omega) hcap7 hmc)
        clear hb
        go_wp2_with fail
        refine HWS.out.mono ?_
        rintro e _ ⟨rfl, z9, rfl⟩
        go_wp2_with fail
        go_ret
        exact ⟨rfl, below_drewN HB8.out z9⟩

end My
end Go.Proofs.YtopijgkmgpkmnaaDoor
