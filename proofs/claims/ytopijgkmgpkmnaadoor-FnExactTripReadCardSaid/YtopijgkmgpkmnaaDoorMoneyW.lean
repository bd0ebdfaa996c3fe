/- MoneyWrite, as both have it. -/
import Derived.Test.YtopijgkmgpkmnaaDoorDec
namespace Go.Proofs.YtopijgkmgpkmnaaDoor
open Go.RowKit Go.Deep
set_option linter.unusedVariables false
namespace My

/-- The library's table of powers of ten lies as its initialiser laid it. -/
def EnvT (w : World) : Prop := Lib.TabIs Tryd.prog w "internal/strconv.uint64pow10" .u64 Lib.pow10Tab
theorem EnvT.below {w w' : World} (h : EnvT w) (hb : Below w.heap.size w w') : EnvT w' := by
  unfold EnvT Lib.TabIs World.var? at h ⊢
  cases hg : Tryd.prog.globalNamed "internal/strconv.uint64pow10" with
  | none => rw [hg] at h; simp at h
  | some g =>
    rw [hg] at h
    simp only [Option.bind_some] at h ⊢
    have hlt : g < w.heap.size := by
      rcases Nat.lt_or_ge g w.heap.size with h' | h'
      · exact h'
      · rw [Array.getElem?_eq_none h'] at h; simp at h
    rw [hb.block g hlt]
    exact h
theorem EnvT.drewN {w : World} (h : EnvT w) (n : Nat) : EnvT (w.drewN n) := h.below (below_drewN (Below.refl _ _) n)
theorem EnvT.drew {w : World} (h : EnvT w) : EnvT w.drew := h.below ((Below.refl _ _).drew)
theorem EnvT.alloc {w : World} (h : EnvT w) (o : Obj) : EnvT (w.alloc o) := h.below ((Below.refl _ _).alloc (Nat.le_refl _) o)

theorem itoa_any (n : Int) (w : World) (h0 : -9223372036854775808 ≤ n) (h1 : n ≤ 9223372036854775807) (h : EnvT w) : Calls Tryd.prog 42 #[.int .i64 n] w (StrPost (Lib.itoa n) w) := by
  refine (Tryd.strconv_Itoa n h0 h1 w h).mono ?_
  rintro e w' ⟨rfl, k, os, rfl⟩
  refine ⟨rfl, ?_⟩
  refine ⟨rfl, rfl, rfl, by simp, fun i hi => ?_⟩
  exact Sort.heap_grow_old (w.drewN k) os hi

def absN (n : Int) : Nat := n.natAbs
theorem absI_nat (n : Int) : absI n = (absN n : Int) := by unfold absI absN; split <;> omega
def moneyU (u : Nat) : List UInt8 := Lib.decDigits (u / 100) ++ [46] ++ Lib.decDigits (u % 100 / 10) ++ Lib.decDigits (u % 100 % 10)
def moneyT (n : Int) : List UInt8 := (if n < 0 then [45] else []) ++ moneyU (absN n)
def mwT (n : Int) : List UInt8 := if mOk n then moneyT n else []

set_option maxRecDepth 100000 in
theorem l2Money_nat (u : Nat) (w : World) (h : u ≤ 1000000000000) : Calls Tryd.prog 49 #[.int .i64 u] w (StrPost (moneyU u) w) := by
  obtain ⟨a, ha⟩ : ∃ a, a = Lib.decDigits (u / 100) := ⟨_, rfl⟩
  obtain ⟨b, hb⟩ : ∃ b, b = Lib.decDigits (u % 100 / 10) := ⟨_, rfl⟩
  obtain ⟨c, hc⟩ : ∃ c, c = Lib.decDigits (u % 100 % 10) := ⟨_, rfl⟩
  have HM : Hid (moneyU u = a ++ [46] ++ b ++ c) := by show moneyU u = _; rw [ha, hb, hc]; rfl
  have z1 : (txt a).size ≤ 19 := by rw [ha]; exact dec_size _ (by omega)
  have z2 : (txt b).size ≤ 19 := by rw [hb]; exact dec_size _ (by omega)
  have z3 : (txt c).size ≤ 19 := by rw [hc]; exact dec_size _ (by omega)
  have H1 := Lib.hid (fun w => (show Calls Tryd.prog 71 #[.int .i64 ((u : Int) / 100)] w (StrPost a w) by rw [ha]; exact l1Dec_nat (u / 100) w (by omega)))
  have H2 := Lib.hid (fun w => (show Calls Tryd.prog 71 #[.int .i64 ((u : Int) % 100 / 10)] w (StrPost b w) by rw [hb]; exact l1Dec_nat (u % 100 / 10) w (by omega)))
  have H3 := Lib.hid (fun w => (show Calls Tryd.prog 71 #[.int .i64 ((u : Int) % 10)] w (StrPost c w) by rw [hc, show u % 100 % 10 = u % 10 from by omega]; exact l1Dec_nat (u % 10) w (by omega)))
  clear ha hb hc
  go_enter Tryd.func49, Tryd.ntmps49
  go_wp2_with fail
  with_reducible refine (H1.out _).mono ?_
  rintro e w1 ⟨rfl, b1⟩
  have B1 := Lib.hid b1
  clear b1
  go_wp2_with fail
  with_reducible refine (H2.out _).mono ?_
  rintro e w2 ⟨rfl, b2⟩
  have B2 := Lib.hid (bT B1.out b2)
  clear b2
  go_wp2_with fail
  with_reducible refine (H3.out _).mono ?_
  rintro e w3 ⟨rfl, b3⟩
  have B3 := Lib.hid (bT B2.out b3)
  clear b3
  go_wp2_with fail
  go_ret
  exact ⟨Eq.trans (b := Ending.returned (.string (txt a ++ txt [46] ++ txt b ++ txt c))) rfl (ret_txt (by rw [HM.out, txt_app, txt_app, txt_app])), B3.out⟩

set_option maxRecDepth 100000 in
theorem sMoneyWrite_any (n : Int) (w : World) : Calls Tryd.prog 18 #[.int .i64 n] w (StrPost (mwT n) w) := by
  cases hm : mOk n
  · have HT : Hid (mwT n = []) := by show mwT n = []; simp [mwT, hm]
    go_enter Tryd.func18, Tryd.ntmps18
    go_wp2_with (go_at_call 35; ((with_reducible refine (sMoneyOk_any _ _).mono ?_); rintro e w' ⟨rfl, rfl⟩))
    go_ret
    exact ⟨ret_txt (by rw [HT.out]; rfl), Below.refl _ _⟩
  · obtain ⟨m0, m1⟩ := mOk_true hm
    have HT : Hid (mwT n = moneyT n) := by show mwT n = _; simp [mwT, hm]
    have H : Hid (∀ w, Calls Tryd.prog 49 #[.int .i64 n] w (StrPost (moneyT n) w)) := by
      show ∀ w, _
      intro w
      by_cases c : n < 0
      · obtain ⟨u, hu⟩ : ∃ u : Nat, n = -(u : Int) := ⟨n.natAbs, by omega⟩
        subst hu
        have HU : Hid (moneyT (-(u : Int)) = [45] ++ moneyU u) := by
          show moneyT _ = _
          have e : absN (-(u : Int)) = u := by unfold absN; omega
          simp only [moneyT, e]
          rw [if_pos c]
        have z : (txt (moneyU u)).size ≤ 60 := by
          rw [txt_size]
          simp only [moneyU, List.length_append, List.length_cons, List.length_nil]
          have h1 := dec_size (u / 100) (by omega)
          have h2 := dec_size (u % 100 / 10) (by omega)
          have h3 := dec_size (u % 100 % 10) (by omega)
          rw [txt_size] at h1 h2 h3
          omega
        have hK := Lib.hid (fun w' => l2Money_nat u w' (by omega))
        obtain ⟨M, hM⟩ : ∃ M, M = moneyU u := ⟨_, rfl⟩
        rw [← hM] at z hK HU
        clear hM HT hm
        go_enter Tryd.func49, Tryd.ntmps49
        go_wp2_with (go_at_call 49; ((with_reducible refine (hK.out _).mono ?_); rintro e w1 ⟨rfl, hb⟩; have HB := Lib.hid hb; clear hb))
        go_ret
        exact ⟨Eq.trans (b := Ending.returned (.string (txt [45] ++ txt M))) rfl (ret_txt (by rw [HU.out, txt_app])), HB.out⟩
      · obtain ⟨u, hu⟩ : ∃ u : Nat, n = (u : Int) := ⟨n.toNat, by omega⟩
        subst hu
        have e : absN (u : Int) = u := by unfold absN; omega
        have : moneyT (u : Int) = moneyU u := by
          simp only [moneyT, e]
          rw [if_neg c]; rfl
        rw [this]
        exact l2Money_nat u w (by omega)
    go_enter Tryd.func18, Tryd.ntmps18
    go_wp2_with (first | (go_at_call 35; ((with_reducible refine (sMoneyOk_any _ _).mono ?_); rintro e w' ⟨rfl, rfl⟩)) | (go_at_call 49; ((with_reducible refine (H.out _).mono ?_); rintro e w1 ⟨rfl, hb⟩; have HB := Lib.hid hb; clear hb)))
    go_ret
    exact ⟨ret_txt (by rw [HT.out]), HB.out⟩

theorem cents_cases (c : Nat) (h : c < 100) : (c < 10 ∧ Lib.decDigits (c / 10) ++ Lib.decDigits (c % 10) = [48] ++ Lib.decDigits c ∧ (txt (Lib.decDigits c)).size = 1) ∨
    (¬ c < 10 ∧ Lib.decDigits (c / 10) ++ Lib.decDigits (c % 10) = [] ++ Lib.decDigits c ∧ (txt (Lib.decDigits c)).size = 2) := by
  by_cases h1 : c < 10
  · refine Or.inl ⟨h1, ?_, ?_⟩
    · rw [show c / 10 = 0 from by omega, show c % 10 = c from by omega, Lib.decDigits_one (i := 0) (by omega)]; rfl
    · rw [txt_size, Lib.decDigits_one h1]; rfl
  · refine Or.inr ⟨h1, ?_, ?_⟩
    · rw [Lib.decDigits_two h1 h, Lib.decDigits_one (by omega : c / 10 < 10), Lib.decDigits_one (by omega : c % 10 < 10)]; rfl
    · rw [txt_size, Lib.decDigits_two h1 h]; rfl
theorem repeat_any (c : Nat) (w : World) (h : c ≤ 2) : Calls Tryd.prog 52 #[.string ⟨#[48]⟩, .int .i64 c] w (StrPost (Lib.repeatL [48] c) w) := by
  have := Tryd.strings_Repeat ⟨#[48]⟩ c w (by omega) (by show 1 * c ≤ _; omega)
  exact this

set_option maxRecDepth 100000 in
set_option maxHeartbeats 1000000 in
theorem iMoneyWrite_any (n : Int) (w : World) (h : EnvT w) : Calls Tryd.prog 19 #[.int .i64 n] w (StrPost (mwT n) w) := by
  have H := Lib.hid h
  clear h
  cases hm : mOk n
  · have HT : Hid (mwT n = []) := by show mwT n = []; simp [mwT, hm]
    go_enter Tryd.func19, Tryd.ntmps19
    go_wp2_with (go_at_call 50; ((with_reducible refine (iMoneyOk_any _ _).mono ?_); rintro e w' ⟨rfl, rfl⟩))
    go_ret
    exact ⟨ret_txt (by rw [HT.out]; rfl), Below.refl _ _⟩
  · obtain ⟨m0, m1⟩ := mOk_true hm
    obtain ⟨u, hu⟩ : ∃ u, u = absN n := ⟨_, rfl⟩
    have hu1 : u ≤ 1000000000000 := by rw [hu]; unfold absN; omega
    have HS : Hid (∀ w, Calls Tryd.prog 51 #[.int .i64 n] w fun e w' => e = .returned (.int .i64 (u : Int)) ∧ w = w') := by
      show ∀ w, _
      intro w
      have := size_any n w (by omega) (by omega)
      rw [absI_nat, ← hu] at this
      exact this
    obtain ⟨Q, hQ⟩ : ∃ Q, Q = Lib.decDigits (u / 100) := ⟨_, rfl⟩
    obtain ⟨C, hC⟩ : ∃ C, C = Lib.decDigits (u % 100) := ⟨_, rfl⟩
    have z1 : (txt Q).size ≤ 19 := by rw [hQ]; exact dec_size _ (by omega)
    have H1 := Lib.hid (fun (w : World) (h : EnvT w) => (show Calls Tryd.prog 42 #[.int .i64 ((u : Int) % 100)] w (StrPost C w) by
      have := itoa_any ((u : Int) % 100) w (by omega) (by omega) h
      rw [show (u : Int) % 100 = ((u % 100 : Nat) : Int) from by omega, Lib.itoa_nonneg, ← hC] at this
      rw [show (u : Int) % 100 = ((u % 100 : Nat) : Int) from by omega]
      exact this))
    have H2 := Lib.hid (fun (w : World) (h : EnvT w) => (show Calls Tryd.prog 42 #[.int .i64 ((u : Int) / 100)] w (StrPost Q w) by
      have := itoa_any ((u : Int) / 100) w (by omega) (by omega) h
      rw [show (u : Int) / 100 = ((u / 100 : Nat) : Int) from by omega, Lib.itoa_nonneg, ← hQ] at this
      rw [show (u : Int) / 100 = ((u / 100 : Nat) : Int) from by omega]
      exact this))
    have HR0 := Lib.hid (fun w => (show Calls Tryd.prog 52 #[.string ⟨#[48]⟩, .int .i64 0] w (StrPost [] w) from repeat_any 0 w (by omega)))
    have HR1 := Lib.hid (fun w => (show Calls Tryd.prog 52 #[.string ⟨#[48]⟩, .int .i64 1] w (StrPost [48] w) from repeat_any 1 w (by omega)))
    have key : ∀ S : List UInt8, S = (if n < 0 then [45] else []) → mwT n = S ++ Q ++ [46] ++ (Lib.decDigits (u % 100 / 10) ++ Lib.decDigits (u % 100 % 10)) := by
      intro S hS
      simp only [mwT, hm, if_true, moneyT, ← hu, ← hS, moneyU, ← hQ, List.append_assoc]
    have HK := Lib.hid key
    have hcc := cents_cases (u % 100) (by omega)
    rw [← hC] at hcc
    clear hu hQ hC key
    have y0 : (txt []).size = 0 := by rw [txt_size]; rfl
    have y1 : (txt [48]).size = 1 := one_size 48
    by_cases hneg : n < 0
    · have HS2 : Hid (([45] : List UInt8) = (if n < 0 then [45] else [])) := by show _ = _; rw [if_pos hneg]
      rcases hcc with ⟨_, hc1, hc2⟩ | ⟨_, hc1, hc2⟩
      · have HC1 := Lib.hid hc1
        clear hc1
        go_enter Tryd.func19, Tryd.ntmps19
        go_wp2_with (first | (go_at_call 50; ((with_reducible refine (iMoneyOk_any _ _).mono ?_); rintro e w' ⟨rfl, rfl⟩)) | (go_at_call 51; ((with_reducible refine (HS.out _).mono ?_); rintro e w' ⟨rfl, rfl⟩)))
        with_reducible refine (H1.out _ H.out).mono ?_
        rintro e w1 ⟨rfl, b1⟩
        have B1 := Lib.hid b1
        clear b1
        go_wp2_with (go_at_call 51; ((with_reducible refine (HS.out _).mono ?_); rintro e w' ⟨rfl, rfl⟩))
        with_reducible refine (H2.out _ (H.out.below B1.out)).mono ?_
        rintro e w2 ⟨rfl, b2⟩
        have B2 := Lib.hid (bT B1.out b2)
        clear b2
        go_wp2_with fail
        with_reducible refine (HR1.out _).mono ?_
        rintro e w3 ⟨rfl, b3⟩
        have B3 := Lib.hid (bT B2.out b3)
        clear b3
        go_wp2_with fail
        go_ret
        exact ⟨Eq.trans (b := Ending.returned (.string (txt [45] ++ txt Q ++ txt [46] ++ txt [48] ++ txt C))) rfl (ret_txt (by rw [HK.out _ HS2.out, HC1.out]; simp only [txt_app, List.append_assoc])), B3.out⟩
      · have HC1 := Lib.hid hc1
        clear hc1
        go_enter Tryd.func19, Tryd.ntmps19
        go_wp2_with (first | (go_at_call 50; ((with_reducible refine (iMoneyOk_any _ _).mono ?_); rintro e w' ⟨rfl, rfl⟩)) | (go_at_call 51; ((with_reducible refine (HS.out _).mono ?_); rintro e w' ⟨rfl, rfl⟩)))
        with_reducible refine (H1.out _ H.out).mono ?_
        rintro e w1 ⟨rfl, b1⟩
        have B1 := Lib.hid b1
        clear b1
        go_wp2_with (go_at_call 51; ((with_reducible refine (HS.out _).mono ?_); rintro e w' ⟨rfl, rfl⟩))
        with_reducible refine (H2.out _ (H.out.below B1.out)).mono ?_
        rintro e w2 ⟨rfl, b2⟩
        have B2 := Lib.hid (bT B1.out b2)
        clear b2
        go_wp2_with fail
        with_reducible refine (HR0.out _).mono ?_
        rintro e w3 ⟨rfl, b3⟩
        have B3 := Lib.hid (bT B2.out b3)
        clear b3
        go_wp2_with fail
        go_ret
        exact ⟨Eq.trans (b := Ending.returned (.string (txt [45] ++ txt Q ++ txt [46] ++ txt [] ++ txt C))) rfl (ret_txt (by rw [HK.out _ HS2.out, HC1.out]; simp only [txt_app, List.append_assoc])), B3.out⟩
    · have HS2 : Hid (([] : List UInt8) = (if n < 0 then [45] else [])) := by show _ = _; rw [if_neg hneg]
      rcases hcc with ⟨_, hc1, hc2⟩ | ⟨_, hc1, hc2⟩
      · have HC1 := Lib.hid hc1
        clear hc1
        go_enter Tryd.func19, Tryd.ntmps19
        go_wp2_with (first | (go_at_call 50; ((with_reducible refine (iMoneyOk_any _ _).mono ?_); rintro e w' ⟨rfl, rfl⟩)) | (go_at_call 51; ((with_reducible refine (HS.out _).mono ?_); rintro e w' ⟨rfl, rfl⟩)))
        with_reducible refine (H1.out _ H.out).mono ?_
        rintro e w1 ⟨rfl, b1⟩
        have B1 := Lib.hid b1
        clear b1
        go_wp2_with (go_at_call 51; ((with_reducible refine (HS.out _).mono ?_); rintro e w' ⟨rfl, rfl⟩))
        with_reducible refine (H2.out _ (H.out.below B1.out)).mono ?_
        rintro e w2 ⟨rfl, b2⟩
        have B2 := Lib.hid (bT B1.out b2)
        clear b2
        go_wp2_with fail
        with_reducible refine (HR1.out _).mono ?_
        rintro e w3 ⟨rfl, b3⟩
        have B3 := Lib.hid (bT B2.out b3)
        clear b3
        go_wp2_with fail
        go_ret
        exact ⟨Eq.trans (b := Ending.returned (.string (txt [] ++ txt Q ++ txt [46] ++ txt [48] ++ txt C))) rfl (ret_txt (by rw [HK.out _ HS2.out, HC1.out]; simp only [txt_app, List.append_assoc])), B3.out⟩
      · have HC1 := Lib.hid hc1
        clear hc1
        go_enter Tryd.func19, Tryd.ntmps19
        go_wp2_with (first | (go_at_call 50; ((with_reducible refine (iMoneyOk_any _ _).mono ?_); rintro e w' ⟨rfl, rfl⟩)) | (go_at_call 51; ((with_reducible refine (HS.out _).mono ?_); rintro e w' ⟨rfl, rfl⟩)))
        with_reducible refine (H1.out _ H.out).mono ?_
        rintro e w1 ⟨rfl, b1⟩
        have B1 := Lib.hid b1
        clear b1
        go_wp2_with (go_at_call 51; ((with_reducible refine (HS.out _).mono ?_); rintro e w' ⟨rfl, rfl⟩))
        with_reducible refine (H2.out _ (H.out.below B1.out)).mono ?_
        rintro e w2 ⟨rfl, b2⟩
        have B2 := Lib.hid (bT B1.out b2)
        clear b2
        go_wp2_with fail
        with_reducible refine (HR0.out _).mono ?_
        rintro e w3 ⟨rfl, b3⟩
        have B3 := Lib.hid (bT B2.out b3)
        clear b3
        go_wp2_with fail
        go_ret
        exact ⟨Eq.trans (b := Ending.returned (.string (txt [] ++ txt Q ++ txt [46] ++ txt [] ++ txt C))) rfl (ret_txt (by rw [HK.out _ HS2.out, HC1.out]; simp only [txt_app, List.append_assoc])), B3.out⟩

end My
end Go.Proofs.YtopijgkmgpkmnaaDoor
