/- FnWireBoth: words behind words. -/
import Derived.Test.YtopijgkmgpkmnaaDoorDrawV
namespace Go.Proofs.YtopijgkmgpkmnaaDoor
open Go.RowKit Go.Deep
set_option linter.unusedVariables false
namespace My

def strsOf (F : Nat → ByteArray) (n : Nat) : List Value := (List.range n).map fun i => .string (F i)
theorem strsOf_len (F : Nat → ByteArray) (n : Nat) : (strsOf F n).length = n := by simp [strsOf]
theorem strsOf_get {F : Nat → ByteArray} {n i : Nat} (h : i < n) : (strsOf F n)[i]? = some (.string (F i)) := by simp [strsOf, h]
theorem ownT_of_owns {w : World} {base e g n cap : Nat} {F : Nat → ByteArray} (h : w.ownsRow base e 1 (.slice (some ⟨g, 0, none⟩) n cap) n (strsOf F n)) : OwnT w g n F ∧ base ≤ g ∧ n ≤ cap := by
  obtain ⟨_, h | ⟨g', cap', cur, hv, hb, hh, hn, hc, hs, ht⟩⟩ := h
  · cases h.1
  · simp only [Value.slice.injEq, Option.some.injEq, Addr.mk.injEq, true_and, and_true] at hv
    obtain ⟨rfl, rfl⟩ := hv
    refine ⟨⟨e, cur, hh, fun i hi => ?_⟩, hb, hn⟩
    have h1 : (cur.toList.take (n * 1))[i]? = (strsOf F n)[i]? := by rw [ht]
    rw [List.getElem?_take_of_lt (by omega), strsOf_get hi] at h1
    simpa using h1
def appF (F : Nat → ByteArray) (n : Nat) (G : Nat → ByteArray) (i : Nat) : ByteArray := if i < n then F i else G (i - n)
theorem strsOf_app (F G : Nat → ByteArray) (n m : Nat) : strsOf F n ++ strsOf G m = strsOf (appF F n G) (n + m) := by
  apply List.ext_getElem?
  intro i
  rcases Nat.lt_or_ge i n with h | h
  · rw [List.getElem?_append_left (by rw [strsOf_len]; exact h), strsOf_get h, strsOf_get (by omega)]
    simp [appF, h]
  · rw [List.getElem?_append_right (by rw [strsOf_len]; exact h), strsOf_len]
    rcases Nat.lt_or_ge i (n + m) with k | k
    · rw [strsOf_get (by omega), strsOf_get k]
      have : ¬ i < n := by omega
      simp [appF, this]
    · rw [List.getElem?_eq_none (by rw [strsOf_len]; omega), List.getElem?_eq_none (by rw [strsOf_len]; omega)]

theorem wpList_append_str {w : World} {ops : Array Oper} {rest : List Oper} {o : Oper} {a : Act} {Q : Exit → Act → World → Prop} (hgd : o.guard = none) (s x : Operand)
    (ho : o.op = .call { callee := .builtin .append, args := #[s, x], argTypes := #[22, 22] }) (base g0 n c0 : Nat) (xs : List Value)
    (hs : a.eval s = .slice (some ⟨g0, 0, none⟩) n c0) (hown : w.ownsRow base 9 1 (.slice (some ⟨g0, 0, none⟩) n c0) n xs)
    (g1 m c1 : Nat) (hx : a.eval x = .slice (some ⟨g1, 0, none⟩) m c1) (F : Nat → ByteArray) (hF : OwnT w g1 m F) (hb : n + m ≤ 1000) (hbase : base ≤ w.heap.size)
    (h : ∀ g cap w', w'.ownsRow base 9 1 (.slice (some ⟨g, 0, none⟩) (n + m) cap) (n + m) (xs ++ strsOf F m) → Below base w w' → wpList Tryd.prog ops Q rest (a.put o.dst (.slice (some ⟨g, 0, none⟩) (n + m) cap)) w') :
    wpList Tryd.prog ops Q (o :: rest) a w := by
  obtain ⟨i0, hi0, hz0, hz1, hz2⟩ := info_parts infoStr
  by_cases hm : m = 0
  · subst hm
    have hrun := run_append_room_src (P := Tryd.prog) (w := w) 22 22 o.type 9 i0 Tryd.underlying22 hi0 g0 0 n c0 (.slice (some ⟨g1, 0, none⟩) 0 c1) 0 [] (Src.ofSlice w Tryd.underlying22 ⟨g1, 0, none⟩ 0 c1 [] (by simp) (fun j u hu => by simp at hu) (fun u hu => by cases hu))
      (by rcases hown.2 with ⟨h', _⟩ | ⟨g', cap', cur, h', _, _, hnc, _⟩
          · cases h'
          · simp only [Value.slice.injEq] at h'; omega) (fun j hj => by simp at hj) (fun j hj => by simp at hj)
    have hset : w.setCells g0 (0 + n * i0.size) [] = w := rfl
    rw [hset] at hrun
    refine wpList_plain hgd fun K hK' => ?_
    unfold Oper.wp
    simp [execOp, ho, resolve, invoke, builtin, hs, hx, hrun, Result.andThen]
    have := h g0 c0 w (by simpa [strsOf] using hown) (Below.refl _ _)
    exact hK' _ _ (by simpa using this)
  · refine wpList_append_lies w hgd s x 22 ho base 9 i0 (.string ⟨#[]⟩) 1 16 Tryd.underlying22 hi0 hz0 hz1 hz2 rfl (by decide) (.slice (some ⟨g0, 0, none⟩) n c0) n xs hs hown ⟨g1, 0, none⟩ m c1 (strsOf F m) hx (by rw [strsOf_len]; omega) ?_ ?_ (by omega) (by unfold maxLen; omega) (by omega) hbase w.heap.size rfl ?_
    · intro j u hu
      rcases Nat.lt_or_ge j m with hj | hj
      · rw [strsOf_get hj] at hu
        cases hu
        rw [addr_addS, Nat.zero_add]
        exact hF.cell hj
      · rw [List.getElem?_eq_none (by rw [strsOf_len]; omega)] at hu; cases hu
    · intro u hu
      simp only [strsOf, List.mem_map] at hu
      obtain ⟨i, _, rfl⟩ := hu
      rfl
    · intro g cap w' hown' hgrow _ _
      refine h g cap w' hown' ?_
      have hg0 := (hown.lt g0 rfl).1
      exact (Below.refl base w).grown hgrow hbase (by intro q hq; simp [Value.ownBlock] at hq; omega)

theorem putL_congr {F G : Nat → ByteArray} : ∀ n, (∀ i, i < n → F i = G i) → putL F n = putL G n
  | 0, _ => rfl
  | n + 1, h => by simp only [putL]; rw [putL_congr n (fun i hi => h i (by omega)), h n (by omega)]
theorem putL_app (F G : Nat → ByteArray) (n : Nat) : ∀ m, putL (appF F n G) (n + m) = putL F n ++ putL G m
  | 0 => by
    rw [Nat.add_zero]
    simp only [putL, List.append_nil]
    exact putL_congr n (fun i hi => by simp [appF, hi])
  | m + 1 => by
    rw [← Nat.add_assoc]
    simp only [putL]
    rw [putL_app F G n m]
    have : ¬ n + m < n := by omega
    simp [appF, this]
theorem both_law (F G : Nat → ByteArray) (n m : Nat) : wpT (appF F n G) (n + m) = [] ∨ wpT (appF F n G) (n + m) = wpT F n ++ wpT G m := by
  unfold wpT
  by_cases h : n + m ≤ 40 ∧ (putL (appF F n G) (n + m)).length ≤ 6000
  · rw [if_pos h]
    rw [putL_app] at h ⊢
    rw [List.length_append] at h
    rw [if_pos (by omega), if_pos (by omega)]
    exact Or.inr rfl
  · rw [if_neg h]
    exact Or.inl rfl
theorem sumZ_bound {F : Nat → ByteArray} {n : Nat} (h : ∀ i, i < n → (F i).size ≤ 6000) : ∀ k, k ≤ n → sumZ F k ≤ 6000 * k
  | 0, _ => by simp [sumZ]
  | k + 1, hk => by
    have := sumZ_bound h k (by omega)
    have := h k (by omega)
    simp only [sumZ]
    omega
theorem sumZ_congr {F G : Nat → ByteArray} : ∀ n, (∀ i, i < n → F i = G i) → sumZ F n = sumZ G n
  | 0, _ => rfl
  | n + 1, h => by simp only [sumZ]; rw [sumZ_congr n (fun i hi => h i (by omega)), h n (by omega)]
theorem wpT_size {F : Nat → ByteArray} {n : Nat} : (txt (wpT F n)).size ≤ 6000 := by
  rw [txt_size]
  unfold wpT
  split
  · rename_i h; exact h.2
  · exact Nat.zero_le _

set_option maxRecDepth 100000 in
set_option maxHeartbeats 4000000 in
theorem FnWireBoth_walk (a0 : Option Addr) (len0 cap0 : Nat) (z0 : Unit) (a1 : Option Addr) (len1 cap1 : Nat) (z1 : Unit) (w : World) (h : BytesIn w a0 len0 cap0) (h' : BytesIn w a1 len1 cap1) (henv : Env3 w) :
    Calls Tryd.prog 4 #[.slice a0 len0 cap0, .slice a1 len1 cap1] w fun e w' => e = .returned (.bool true) ∧ Below w.heap.size w w' := by
  have HE := Lib.hid (show EnvT w from henv)
  have H := Lib.hid h
  have H' := Lib.hid h'
  have HB0 := Lib.hid (Below.refl w.heap.size w)
  have h2 := h.2.1
  have h2' := h'.2.1
  unfold maxLen at h2 h2'
  have h1 := h.1
  have h1' := h'.1
  clear h h' henv
  by_cases hs : 1048576 < len0
  · go_enter Tryd.func4, Tryd.ntmps4
    go_wp2_with fail
    go_ret
    exact ⟨rfl, HB0.out⟩
  by_cases hs' : 1048576 < len1
  · go_enter Tryd.func4, Tryd.ntmps4
    go_wp2_with fail
    go_ret
    exact ⟨rfl, HB0.out⟩
  go_enter Tryd.func4, Tryd.ntmps4
  go_wp2_with fail
  refine (DrawWirePut_any _ _ _ _ H.out).mono ?_
  rintro e w1 ⟨g, n, c, F, rfl, hn, hc, ho, hF, hg, hb⟩
  have HO := Lib.hid ho
  have HF := Lib.hid hF
  have HB1 := Lib.hid hb
  have sz1 := hb.size
  clear ho hF hb
  go_wp2_with fail
  refine (DrawWirePut_any _ _ _ _ (H'.out.below HB1.out)).mono ?_
  rintro e w2 ⟨g', n', c', G, rfl, hn', hc', ho', hG, hg', hb'⟩
  have HO' := Lib.hid ho'
  have HG := Lib.hid hG
  have HB2 := Lib.hid (bT HB1.out hb')
  have HO2 := Lib.hid (HO.out.below hb' (Nat.le_refl _))
  clear ho' hG hb'
  have hzF : sumZ F n ≤ 1048576 := by have := sumZ_bound HF.out n (Nat.le_refl _); omega
  have hzG : sumZ G n' ≤ 1048576 := by have := sumZ_bound HG.out n' (Nat.le_refl _); omega
  go_wp2_with fail
  refine (iWirePut_any _ n c F w2 HO2.out.inS (by omega) hc hzF (HE.out.below HB2.out)).mono ?_
  rintro e w3 ⟨rfl, b3⟩
  have HB3 := Lib.hid (bT HB2.out b3)
  have HC3 := Lib.hid b3
  clear b3
  go_wp2_with fail
  refine (iWirePut_any _ n' c' G w3 (HO'.out.inS.below HC3.out (Nat.le_refl _)) (by omega) hc' hzG (HE.out.below HB3.out)).mono ?_
  rintro e w4 ⟨rfl, b4⟩
  have HB4 := Lib.hid (bT HB3.out b4)
  have HC4 := Lib.hid (bT HC3.out b4)
  have sz4 := HB4.out.size
  clear b4
  have HO4 := Lib.hid (HO2.out.below HC4.out (Nat.le_refl _))
  have HO4' := Lib.hid (HO'.out.below HC4.out (Nat.le_refl _))
  have HST := Lib.hid (World.ownsRow_lit (base := w4.heap.size) (e := 9) (size := 1) w4 #[] 0 (Nat.le_refl _) (by simp [maxLen]) rfl)
  go_wp2_with (first
    | (at_builtin; (refine wpList_append_str rfl (.tmp 26) (.tmp 27) rfl w4.heap.size w4.heap.size 0 0 [] rfl HST.out g n c rfl F (HO4.out.below ((Below.refl _ _).alloc (Nat.le_refl _) _) (Nat.le_refl _)) (by omega) (by simp) ?_; intro g5 c5 w5 hown5 hb5; have HOW5 := Lib.hid (show w5.ownsRow w4.heap.size 9 1 (.slice (some ⟨g5, 0, none⟩) n c5) n (strsOf F n) by simpa using hown5); have HB5 := Lib.hid hb5; clear hown5 hb5))
    | (at_builtin; (refine wpList_append_str rfl (.tmp 28) (.tmp 29) rfl w4.heap.size g5 n c5 (strsOf F n) rfl HOW5.out g' n' c' rfl G (HO4'.out.below (((Below.refl _ _).alloc (Nat.le_refl _) _).trans HB5.out) (Nat.le_refl _)) (by omega) (by have := HB5.out.size; simp at this; omega) ?_; intro g6 c6 w6 hown6 hb6; have HOW6 := Lib.hid hown6; have HB6 := Lib.hid hb6; clear hown6 hb6)))
  obtain ⟨ho6, hg6, hc6⟩ := ownT_of_owns (show w6.ownsRow w4.heap.size 9 1 (.slice (some ⟨g6, 0, none⟩) (n + n') c6) (n + n') (strsOf (appF F n G) (n + n')) by rw [← strsOf_app]; exact HOW6.out)
  have HO6 := Lib.hid ho6
  have HB7 := Lib.hid (((Below.refl w4.heap.size w4).alloc (Nat.le_refl _) (.cells #[] 9)).trans (HB5.out.trans HB6.out))
  have HB8 := Lib.hid (bT HB4.out HB7.out)
  have sz8 := HB8.out.size
  have hzA : sumZ (appF F n G) (n + n') ≤ 1048576 := by
    have := sumZ_bound (F := appF F n G) (n := n + n') (fun i hi => by
      unfold appF
      split
      · exact HF.out i (by omega)
      · exact HG.out (i - n) (by omega)) (n + n') (Nat.le_refl _)
    omega
  clear HOW5 HB5 HOW6 HB6 HST ho6 hg6
  refine (iWirePut_any _ (n + n') c6 (appF F n G) w6 HO6.out.inS (by omega) hc6 hzA (HE.out.below HB8.out)).mono ?_
  rintro e w9 ⟨rfl, b9⟩
  have HB9 := Lib.hid (bT HB8.out b9)
  have HC9 := Lib.hid (bT HC4.out (bT HB7.out b9))
  clear b9
  have HO9 := Lib.hid (HO2.out.below HC9.out (Nat.le_refl _))
  have HO9' := Lib.hid (HO'.out.below HC9.out (Nat.le_refl _))
  have hlaw := both_law F G n n'
  have zx : (txt (wpT F n)).size ≤ 6000 := wpT_size
  have zy : (txt (wpT G n')).size ≤ 6000 := wpT_size
  obtain ⟨X, hX⟩ : ∃ X, X = wpT F n := ⟨_, rfl⟩
  obtain ⟨Y, hY⟩ : ∃ Y, Y = wpT G n' := ⟨_, rfl⟩
  obtain ⟨Z, hZ⟩ : ∃ Z, Z = wpT (appF F n G) (n + n') := ⟨_, rfl⟩
  have HX := Lib.hid (fun w (h : InS w (some ⟨g, 0, none⟩) n F) => (show Calls Tryd.prog 13 #[.slice (some ⟨g, 0, none⟩) n c] w (StrPost X w) by rw [hX]; exact sWirePut_any _ n c F w h (by omega) hc hzF))
  have HY := Lib.hid (fun w (h : InS w (some ⟨g', 0, none⟩) n' G) => (show Calls Tryd.prog 13 #[.slice (some ⟨g', 0, none⟩) n' c'] w (StrPost Y w) by rw [hY]; exact sWirePut_any _ n' c' G w h (by omega) hc' hzG))
  rw [← hX, ← hY, ← hZ] at hlaw
  rw [← hX] at zx
  rw [← hY] at zy
  rw [← hX, ← hY, ← hZ]
  clear hX hY hZ
  rcases hlaw with hz | hz
  · subst hz
    have hE : txt [] = (⟨#[]⟩ : ByteArray) := rfl
    rw [hE]
    clear hE
    go_wp2_with fail
    refine (HX.out _ HO9.out.inS).mono ?_
    rintro e w10 ⟨rfl, b10⟩
    have HB10 := Lib.hid (bT HB9.out b10)
    have HO10' := Lib.hid (HO9'.out.below b10 (Nat.le_refl _))
    clear b10
    go_wp2_with fail
    refine (HY.out _ HO10'.out.inS).mono ?_
    rintro e w11 ⟨rfl, b11⟩
    have HB11 := Lib.hid (bT HB10.out b11)
    clear b11
    go_wp2_with fail
    go_ret
    exact ⟨rfl, HB11.out⟩
  · subst hz
    have hE : txt (X ++ Y) = txt X ++ txt Y := (txt_app X Y).symm
    rw [hE]
    clear hE
    go_wp2_with fail
    refine (HX.out _ HO9.out.inS).mono ?_
    rintro e w10 ⟨rfl, b10⟩
    have HB10 := Lib.hid (bT HB9.out b10)
    have HO10' := Lib.hid (HO9'.out.below b10 (Nat.le_refl _))
    clear b10
    go_wp2_with fail
    refine (HY.out _ HO10'.out.inS).mono ?_
    rintro e w11 ⟨rfl, b11⟩
    have HB11 := Lib.hid (bT HB10.out b11)
    clear b11
    go_wp2_with fail
    all_goals
      go_ret
      exact ⟨by simp, HB11.out⟩

end My
end Go.Proofs.YtopijgkmgpkmnaaDoor
