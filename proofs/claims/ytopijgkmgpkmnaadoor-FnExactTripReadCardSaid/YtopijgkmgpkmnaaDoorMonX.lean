/- FnExactMoneyRead, FnMoneyText: the walks; seven listed variables. -/
import Derived.Test.YtopijgkmgpkmnaaDoorMonR
import Derived.Test.YtopijgkmgpkmnaaDoorEnvN
import Derived.Test.YtopijgkmgpkmnaaDoorWireT
namespace Go.Proofs.YtopijgkmgpkmnaaDoor
open Go.RowKit Go.Deep
set_option linter.unusedVariables false
namespace My

abbrev Env7 (W : World) : Prop := EnvN W
theorem env_7 {W : World} (h : laidMetH Tryd.prog Rows.fnExactMoneyReadRow.laid W) (hs : W.ShapedOpen Tryd.prog) : Env7 W := by
  rw [MakeChecks.laidMetH_plain _ _ _ (by kernel_rfl)] at h
  have h1 := laidMet.tail (laidMet.tail h)
  have h2 := laidMet.tail (laidMet.tail h1)
  exact ⟨envT_of h1, errAt_syn (laidMet.tail h2), errAt_rng h2, hs⟩

theorem monPost_same {T : List UInt8} {n m : Int} {b c : Bool} (h : (b = true ∧ IsM T n) ∨ (b = false ∧ n = 0 ∧ ∀ m, ¬ IsM T m)) (h' : (c = true ∧ IsM T m) ∨ (c = false ∧ m = 0 ∧ ∀ m, ¬ IsM T m)) : b = c ∧ n = m := by
  rcases h with ⟨rfl, h⟩ | ⟨rfl, rfl, h⟩ <;> rcases h' with ⟨rfl, h'⟩ | ⟨rfl, rfl, h'⟩
  · exact ⟨rfl, h.inj h'⟩
  · exact absurd h (h' _)
  · exact absurd h' (h _)
  · exact ⟨rfl, rfl⟩

set_option maxRecDepth 100000 in
set_option maxHeartbeats 2000000 in
theorem FnExactMoneyRead_walk (a0 : ByteArray) (w : World) (w0 : a0.size ≤ maxLen) (henv : Env7 w) :
    Calls Tryd.prog 9 #[.string a0] w fun e w' => e = .returned (.bool true) ∧ Below w.heap.size w w' := by
  have HE := Lib.hid (show EnvN w from henv)
  have HB0 := Lib.hid (Below.refl w.heap.size w)
  unfold maxLen at w0
  clear henv
  by_cases hbig : 1048576 < a0.size
  · go_enter Tryd.func9, Tryd.ntmps9
    go_wp2_with fail
    go_ret
    exact ⟨rfl, HB0.out⟩
  · go_enter Tryd.func9, Tryd.ntmps9
    go_wp2_with fail
    refine (sMoneyRead_any a0 w (by omega)).mono ?_
    rintro e w1 ⟨n, b, rfl, hb, n0, n1, hc⟩
    have HB1 := Lib.hid hb
    have HC := Lib.hid hc
    clear hb hc
    go_wp2_with fail
    refine (iMoneyRead_any a0 w1 (by omega) (HE.out.below HB1.out)).mono ?_
    rintro e w2 ⟨m, c, rfl, hb, m0, m1, hc⟩
    obtain ⟨rfl, rfl⟩ := monPost_same HC.out hc
    have HB2 := Lib.hid (bT HB1.out hb)
    clear hb hc HC
    go_wp2_with fail
    all_goals
      go_ret
      exact ⟨by simp, HB2.out⟩

set_option maxRecDepth 100000 in
set_option maxHeartbeats 4000000 in
theorem DrawMoneyOk_any (a : Option Addr) (len cap : Nat) (wB : World) (h : BytesIn wB a len cap) :
    Calls Tryd.prog 66 #[.slice a len cap] wB fun e w' => ∃ x : Int, e = .returned (.int .i64 x) ∧ -1000000000001 ≤ x ∧ x ≤ 1000000000001 ∧ Below wB.heap.size wB w' := by
  go_enter Tryd.func66, Tryd.ntmps66
  go_wp2_with fail
  refine (l1Open_any _ _ _ _ h).mono ?_
  rintro e w ⟨rfl, hi, hb⟩
  have HI := Lib.hid hi
  have HB := Lib.hid hb
  obtain ⟨R, hR⟩ : ∃ R, R = wB.heap.size := ⟨_, rfl⟩
  rw [← hR] at HI ⊢
  have HRR := Lib.hid hR
  have HO := Lib.hid (Only.refl R w)
  clear h hi hb hR
  go_wp2_with fail
  refine (amount_at (by repeat (first | exact HI.out | apply RdInv.drewN | apply RdInv.drew | apply RdInv.alloc)) (by omega)).mono ?_
  rintro e w1 ⟨T, rfl, t0, t1, hi1, ho1⟩
  have HI1 := Lib.hid hi1
  have HO1 := Lib.hid ho1
  have hlt := hi1.lt
  clear hi1 ho1 HI HO
  go_wp2_with fail
  refine (pick_at (n := 3) (HI1.out.alloc) (by omega) (by omega) (by omega)).mono ?_
  rintro e w2 ⟨x, rfl, x0, x1, hi2, ho2⟩
  obtain ⟨v, hv, c, rfl, c0, c1⟩ := pick_cell (x := x) (IntIn (-1000000000001) 1000000000001) ho2 hlt (by
    intro v hv
    simp at hv
    rcases hv with rfl | rfl | rfl
    all_goals exact ⟨_, rfl, by omega, by omega⟩) x0 (by simp; omega)
  have HB2 := Lib.hid (drawn_below HRR.out HB.out ((HO1.out.alloc _).trans ho2))
  clear hi2 ho2
  go_wp2_with fail
  go_ret
  exact ⟨c, rfl, c0, c1, HB2.out⟩

theorem DrawMoneyWrite_any (a : Option Addr) (len cap : Nat) (w : World) (h : BytesIn w a len cap) :
    Calls Tryd.prog 34 #[.slice a len cap] w fun e w' => ∃ x : Int, e = .returned (.int .i64 x) ∧ -1000000000001 ≤ x ∧ x ≤ 1000000000001 ∧ Below w.heap.size w w' := by
  go_enter Tryd.func34, Tryd.ntmps34
  go_wp2_with fail
  refine (DrawMoneyOk_any _ _ _ _ h).mono ?_
  rintro e w1 ⟨x, rfl, x0, x1, hb⟩
  have HB := Lib.hid hb
  clear hb
  go_wp2_with fail
  go_ret
  exact ⟨x, rfl, x0, x1, HB.out⟩

theorem mwT_len (n : Int) : (mwT n).length ≤ 40 := by
  unfold mwT
  split
  · rename_i h
    have hb := mOk_bd h
    unfold moneyT moneyU
    have hu : absN n ≤ 1000000000000 := by unfold absN; omega
    have h1 := dec_size (absN n / 100) (by omega)
    have h2 := dec_size (absN n % 100 / 10) (by omega)
    have h3 := dec_size (absN n % 100 % 10) (by omega)
    rw [txt_size] at h1 h2 h3
    have h2' := dec_one (u := absN n % 100 / 10) (by omega)
    have h3' := dec_one (u := absN n % 100 % 10) (by omega)
    rw [h2', h3']
    split <;> simp <;> omega
  · simp

set_option maxRecDepth 100000 in
set_option maxHeartbeats 4000000 in
theorem DrawMoneyRead_any (a : Option Addr) (len cap : Nat) (wB : World) (h : BytesIn wB a len cap) :
    Calls Tryd.prog 33 #[.slice a len cap] wB (TextPost 400000 wB) := by
  go_enter Tryd.func33, Tryd.ntmps33
  go_wp2_with fail
  refine (l1Open_any _ _ _ _ h).mono ?_
  rintro e w ⟨rfl, hi, hb⟩
  obtain ⟨R, hR⟩ : ∃ R, R = wB.heap.size := ⟨_, rfl⟩
  rw [← hR] at hi ⊢
  have HRR := Lib.hid hR
  have HB := Lib.hid hb
  obtain ⟨a1, len1, cap1, hx, hf⟩ := rdX_ofS hi
  have HI := Lib.hid hx
  have hRlt := hi.lt
  clear h hi hb hR hx hf
  go_wp2_with fail
  refine (pick_atX (n := 6) HI.out (by omega) (by omega) (by omega)).mono ?_
  rintro e w1 ⟨x, rfl, x0, x1, hr, ho⟩
  have HR1 := Lib.hid hr
  have HO1 := Lib.hid ho
  have sz1 := ho.size
  clear hr ho
  by_cases hx : x = 0
  · subst hx
    go_wp2_with fail
    refine (of_at (q := 20) (HR1.out.alloc) (by omega) w1.heap.size 12 12 (by omega) (by omega) (by omega) (by omega) (by simp) ?_).mono ?_
    · intro i hi
      have hb := blk_alloc_new w1 (.cells #[.string ⟨#[]⟩, .string ⟨#[49]⟩, .string ⟨#[49, 46, 48]⟩, .string ⟨#[45, 48, 46, 48, 48]⟩, .string ⟨#[48, 48, 46, 49, 48]⟩, .string ⟨#[46, 49, 48]⟩, .string ⟨#[49, 46, 48, 48, 48]⟩, .string ⟨#[45, 49, 46, 48, 53]⟩, .string ⟨#[49, 48, 48, 48, 48, 48, 48, 48, 48, 48, 48, 46, 48, 48]⟩, .string ⟨#[49, 48, 48, 48, 48, 48, 48, 48, 48, 48, 48, 46, 48, 49]⟩, .string ⟨#[49, 44, 48, 48]⟩, .string ⟨#[120, 46, 49, 48]⟩] 9)
      have : i = 0 ∨ i = 1 ∨ i = 2 ∨ i = 3 ∨ i = 4 ∨ i = 5 ∨ i = 6 ∨ i = 7 ∨ i = 8 ∨ i = 9 ∨ i = 10 ∨ i = 11 := by omega
      rcases this with rfl | rfl | rfl | rfl | rfl | rfl | rfl | rfl | rfl | rfl | rfl | rfl
      all_goals
        refine ⟨_, by simp only [World.cell?, hb]; rfl, _, rfl, ?_⟩
        decide
    rintro e w2 ⟨s, rfl, hs, hr2, ho2⟩
    have HO2 := Lib.hid ((HO1.out.alloc _).trans ho2)
    clear hr2 ho2
    go_wp2_with fail
    go_ret
    exact ⟨s, rfl, by omega, drawn_below HRR.out HB.out HO2.out⟩
  · go_wp2_with fail
    refine (amount_at HR1.out.inv (by omega)).mono ?_
    rintro e w2 ⟨T, rfl, t0, t1, hi2, ho2⟩
    obtain ⟨a2, len2, cap2, hx2, _⟩ := rdX_ofS hi2
    have HR2 := Lib.hid hx2
    have HB2 := Lib.hid (drawn_below HRR.out HB.out (HO1.out.trans ho2))
    clear hi2 ho2 hx2
    go_wp2_with fail
    refine (sMoneyWrite_any T w2).mono ?_
    rintro e w3 ⟨rfl, hb⟩
    have HB3 := Lib.hid (bT HB2.out hb)
    have HR3 := Lib.hid (HR2.out.below hb)
    have hp : (txt (mwT T)).size ≤ 40 := by rw [txt_size]; exact mwT_len T
    clear hb
    obtain ⟨P, hP⟩ : ∃ P, P = txt (mwT T) := ⟨_, rfl⟩
    rw [← hP] at hp ⊢
    clear hP
    have hR3 : R < w3.heap.size := HR3.out.lt
    go_wp2_with fail
    refine (l14Bend_any (q := 1) (HR3.out.alloc) (by omega) P (by omega) (by omega) w3.heap.size 4 4 (by omega) (by omega) (by omega) (by omega) (by simp) ?_ (cs := 4) (by omega) (by omega)).mono ?_
    · intro i hi
      have hb := blk_alloc_new w3 (.cells #[.string ⟨#[48]⟩, .string ⟨#[46]⟩, .string ⟨#[45]⟩, .string ⟨#[49]⟩] 9)
      have : i = 0 ∨ i = 1 ∨ i = 2 ∨ i = 3 := by omega
      rcases this with rfl | rfl | rfl | rfl
      all_goals
        refine ⟨_, by simp only [World.cell?, hb]; rfl, _, rfl, ?_⟩
        decide
    rintro e w4 ⟨t, rfl, ht, ho4⟩
    have HO4 := Lib.hid ho4
    clear ho4
    go_wp2_with fail
    go_ret
    refine ⟨t, rfl, by omega, ?_⟩
    have h1 := (HB3.out).alloc HB3.out.size (.cells #[.string ⟨#[48]⟩, .string ⟨#[46]⟩, .string ⟨#[45]⟩, .string ⟨#[49]⟩] 9)
    exact drawn_below HRR.out h1 HO4.out

theorem mon_law {d m : Int} {c : Bool} (h : (c = true ∧ IsM (mwT d) m) ∨ (c = false ∧ m = 0 ∧ ∀ m, ¬ IsM (mwT d) m)) : c = mOk d ∧ (c = true → m = d) := by
  by_cases hd : mOk d = true
  · have hi : IsM (mwT d) d := by
      unfold mwT
      rw [if_pos hd]
      exact ⟨hd, rfl⟩
    rcases h with ⟨rfl, h⟩ | ⟨_, _, h⟩
    · exact ⟨hd.symm, fun _ => h.inj hi⟩
    · exact absurd hi (h d)
  · have e : mwT d = [] := by unfold mwT; rw [if_neg hd]
    rw [e] at h
    rcases h with ⟨_, h⟩ | ⟨rfl, _, _⟩
    · exact absurd h.2 (moneyT_ne m)
    · refine ⟨by simpa using (Bool.eq_false_iff.2 hd).symm, fun h => by cases h⟩

set_option maxRecDepth 100000 in
set_option maxHeartbeats 4000000 in
theorem FnMoneyText_walk (a0 : Option Addr) (len0 cap0 : Nat) (z0 : Unit) (a1 : Option Addr) (len1 cap1 : Nat) (z1 : Unit) (w : World) (h : BytesIn w a0 len0 cap0) (h' : BytesIn w a1 len1 cap1) (henv : Env7 w) :
    Calls Tryd.prog 10 #[.slice a0 len0 cap0, .slice a1 len1 cap1] w fun e w' => e = .returned (.bool true) ∧ Below w.heap.size w w' := by
  have HE := Lib.hid (show EnvN w from henv)
  have H := Lib.hid h
  have H' := Lib.hid h'
  have HB0 := Lib.hid (Below.refl w.heap.size w)
  have h2 := h.2.1
  have h2' := h'.2.1
  unfold maxLen at h2 h2'
  have h1 := h.1
  have h1' := h'.1
  clear h h' henv
  by_cases hs : 1048576 < len0
  · go_enter Tryd.func10, Tryd.ntmps10
    go_wp2_with fail
    go_ret
    exact ⟨rfl, HB0.out⟩
  by_cases hs' : 1048576 < len1
  · go_enter Tryd.func10, Tryd.ntmps10
    go_wp2_with fail
    go_ret
    exact ⟨rfl, HB0.out⟩
  go_enter Tryd.func10, Tryd.ntmps10
  go_wp2_with fail
  refine (DrawMoneyRead_any _ _ _ _ H.out).mono ?_
  rintro e w1 ⟨t, rfl, ht, hb⟩
  have HB1 := Lib.hid hb
  clear hb
  go_wp2_with fail
  refine (iMoneyRead_any t w1 (by omega) (HE.out.below HB1.out)).mono ?_
  rintro e w2 ⟨n, b, rfl, hb, n0, n1, hc⟩
  have HB2 := Lib.hid (bT HB1.out hb)
  have HC := Lib.hid hc
  clear hb hc
  go_wp2_with fail
  refine (sMoneyRead_any t w2 (by omega)).mono ?_
  rintro e w3 ⟨m, c, rfl, hb, m0, m1, hc⟩
  obtain ⟨rfl, rfl⟩ := monPost_same HC.out hc
  have HB3 := Lib.hid (bT HB2.out hb)
  clear hb hc
  have HMW : Hid (b = true → ∀ w (h : EnvT w), Calls Tryd.prog 19 #[.int .i64 n] w fun e w' => e = .returned (.string t) ∧ Below w.heap.size w w') := by
    intro hbt w h
    have hi : IsM t.data.toList n := by
      rcases HC.out with ⟨_, hi⟩ | ⟨hf, _⟩
      · exact hi
      · rw [hbt] at hf; cases hf
    refine (iMoneyWrite_any n w h).mono ?_
    rintro e w' ⟨rfl, hb⟩
    refine ⟨ret_txt ?_, hb⟩
    unfold mwT
    rw [if_pos hi.1, hi.2, data_txt]
  clear HC
  cases b with
  | false =>
    have HB4 := HB3
    go_wp2_with fail
    refine (DrawMoneyWrite_any _ _ _ _ (H'.out.below HB4.out)).mono ?_
    rintro e w5 ⟨d, rfl, d0, d1, hb⟩
    have HB5 := Lib.hid (bT HB4.out hb)
    clear hb
    go_wp2_with fail
    refine (iMoneyWrite_any d w5 (HE.out.below HB5.out).t).mono ?_
    rintro e w6 ⟨rfl, hb⟩
    have HB6 := Lib.hid (bT HB5.out hb)
    have hp : (txt (mwT d)).size ≤ 40 := by rw [txt_size]; exact mwT_len d
    clear hb
    go_wp2_with fail
    refine (iMoneyRead_any (txt (mwT d)) w6 (by omega) (HE.out.below HB6.out)).mono ?_
    rintro e w7 ⟨m, c, rfl, hb, m0, m1, hc⟩
    rw [txt_data] at hc
    obtain ⟨rfl, hmd⟩ := mon_law hc
    have HB7 := Lib.hid (bT HB6.out hb)
    have HMD := Lib.hid hmd
    clear hb hc hmd
    go_wp2_with fail
    refine (sMoneyWrite_any d w7).mono ?_
    rintro e w8 ⟨rfl, hb⟩
    have HB8 := Lib.hid (bT HB7.out hb)
    clear hb
    by_cases hk : mOk d = true
    · have := HMD.out hk
      subst this
      go_wp2_with (go_at_call 35; ((with_reducible refine (sMoneyOk_any _ _).mono ?_); rintro e w' ⟨rfl, rfl⟩))
      go_ret
      exact ⟨rfl, HB8.out⟩
    · have hk : mOk d = false := by simpa using hk
      go_wp2_with (go_at_call 35; ((with_reducible refine (sMoneyOk_any _ _).mono ?_); rintro e w' ⟨rfl, rfl⟩))
      go_ret
      exact ⟨rfl, HB8.out⟩
  | true =>
    have HMW2 := Lib.hid (HMW.out rfl)
    go_wp2_with fail
    refine (HMW2.out _ (HE.out.below HB3.out).t).mono ?_
    rintro e w4 ⟨rfl, hb⟩
    have HB4 := Lib.hid (bT HB3.out hb)
    clear hb
    go_wp2_with fail
    refine (DrawMoneyWrite_any _ _ _ _ (H'.out.below HB4.out)).mono ?_
    rintro e w5 ⟨d, rfl, d0, d1, hb⟩
    have HB5 := Lib.hid (bT HB4.out hb)
    clear hb
    go_wp2_with fail
    refine (iMoneyWrite_any d w5 (HE.out.below HB5.out).t).mono ?_
    rintro e w6 ⟨rfl, hb⟩
    have HB6 := Lib.hid (bT HB5.out hb)
    have hp : (txt (mwT d)).size ≤ 40 := by rw [txt_size]; exact mwT_len d
    clear hb
    go_wp2_with fail
    refine (iMoneyRead_any (txt (mwT d)) w6 (by omega) (HE.out.below HB6.out)).mono ?_
    rintro e w7 ⟨m, c, rfl, hb, m0, m1, hc⟩
    rw [txt_data] at hc
    obtain ⟨rfl, hmd⟩ := mon_law hc
    have HB7 := Lib.hid (bT HB6.out hb)
    have HMD := Lib.hid hmd
    clear hb hc hmd
    go_wp2_with fail
    refine (sMoneyWrite_any d w7).mono ?_
    rintro e w8 ⟨rfl, hb⟩
    have HB8 := Lib.hid (bT HB7.out hb)
    clear hb
    by_cases hk : mOk d = true
    · have := HMD.out hk
      subst this
      go_wp2_with (go_at_call 35; ((with_reducible refine (sMoneyOk_any _ _).mono ?_); rintro e w' ⟨rfl, rfl⟩))
      go_ret
      exact ⟨rfl, HB8.out⟩
    · have hk : mOk d = false := by simpa using hk
      go_wp2_with (go_at_call 35; ((with_reducible refine (sMoneyOk_any _ _).mono ?_); rintro e w' ⟨rfl, rfl⟩))
      go_ret
      exact ⟨rfl, HB8.out⟩

end My
end Go.Proofs.YtopijgkmgpkmnaaDoor
