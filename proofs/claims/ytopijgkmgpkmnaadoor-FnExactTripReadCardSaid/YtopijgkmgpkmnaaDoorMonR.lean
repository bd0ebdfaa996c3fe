/- MoneyRead, as both have it. -/
import Derived.Test.YtopijgkmgpkmnaaDoorMonP
import Derived.Test.YtopijgkmgpkmnaaDoorWireX2
import Derived.Test.YtopijgkmgpkmnaaDoorBend
namespace Go.Proofs.YtopijgkmgpkmnaaDoor
open Go.RowKit Go.Deep
set_option linter.unusedVariables false
namespace My

def MonPost (T : List UInt8) (w : World) (e : Ending) (w' : World) : Prop :=
  ∃ (n : Int) (b : Bool), e = .returned (.tuple #[.int .i64 n, .bool b]) ∧ Below w.heap.size w w' ∧ -1000000000000 ≤ n ∧ n ≤ 1000000000000 ∧ ((b = true ∧ IsM T n) ∨ (b = false ∧ n = 0 ∧ ∀ m, ¬ IsM T m))

set_option maxRecDepth 100000 in
set_option maxHeartbeats 4000000 in
theorem iMoneyRead_any (s : ByteArray) (w : World) (hs : s.size ≤ 1048576) (henv : EnvN w) : Calls Tryd.prog 32 #[.string s] w (MonPost s.data.toList w) := by
  have HE := Lib.hid henv
  clear henv
  have HF : Hid ((∀ v, Lib.atoiAll (Lib.replace s.data.toList [46] [] 1) ≠ .ok v) → ∀ m, ¬ IsM s.data.toList m) := fun h m hm => h m (money_atoi hm)
  have HO : Hid (∀ v, Lib.atoiAll (Lib.replace s.data.toList [46] [] 1) = .ok v → ∀ m, IsM s.data.toList m → m = v) := by
    intro v h m hm
    have := (money_atoi hm).symm.trans h
    injection this
  have hql := repl_len s.data.toList [46] 1
  have hsl : s.data.toList.length = s.size := by simp
  obtain ⟨Q, hQ⟩ : ∃ Q, Q = Lib.replace s.data.toList [46] [] 1 := ⟨_, rfl⟩
  have HREP : Hid (Calls Tryd.prog 64 #[.string s, .string ⟨#[46]⟩, .string ⟨#[]⟩, .int .i64 1] w fun e w' => e = .returned (.string (txt Q)) ∧ Below w.heap.size w w') := by
    refine (Tryd.strings_Replace_shaped s (txt [46]) (txt []) 1 w HE.out.sh (by omega) (by simp [txt_size]) (by simp [txt_size]; omega)).mono ?_
    rintro e w' ⟨rfl, hb⟩
    rw [txt_data, txt_data, ← hQ]
    exact ⟨rfl, hb⟩
  rw [← hQ] at HF HO hql
  clear hQ
  have hq2 : (txt Q).size ≤ 1048576 := by rw [txt_size]; omega
  cases ha : Lib.atoiAll Q with
  | ok v =>
    have hr := atoi_range ha
    have HV : Hid (∀ m, IsM s.data.toList m → m = v) := HO.out v ha
    have HA : Hid (∀ w, Calls Tryd.prog 63 #[.string (txt Q)] w fun e w' => e = .returned (.tuple #[.int .i64 v, .nilIface]) ∧ Below w.heap.size w w') := by
      intro w
      refine (Tryd.strconv_Atoi_ok (txt Q) (by omega) v (by rw [txt_data]; exact ha) w).mono ?_
      rintro e w' ⟨rfl, hw⟩
      refine ⟨rfl, ?_⟩
      rcases hw with rfl | ⟨t, rfl⟩
      · exact Below.refl _ _
      · exact below_bw _ _ _
    clear ha
    by_cases hm : mOk v = true
    · have hb := mOk_bd hm
      by_cases hT : mwT v = s.data.toList
      · have HT : Hid (txt (mwT v) = s) := by show _ = _; rw [hT, data_txt]
        have HI : Hid (IsM s.data.toList v) := by
          unfold mwT at hT
          rw [if_pos hm] at hT
          exact ⟨hm, hT⟩
        have HMW : Hid (∀ w (h : EnvT w), Calls Tryd.prog 19 #[.int .i64 v] w fun e w' => e = .returned (.string s) ∧ Below w.heap.size w w') := by
          intro w h
          have := iMoneyWrite_any v w h
          refine this.mono ?_
          rintro e w' ⟨rfl, hb⟩
          exact ⟨ret_txt HT.out, hb⟩
        clear hT
        go_enter Tryd.func32, Tryd.ntmps32
        go_wp2_with fail
        refine HREP.out.mono ?_
        rintro e w1 ⟨rfl, hb1⟩
        have HB1 := Lib.hid hb1
        clear hb1
        go_wp2_with fail
        refine (HA.out _).mono ?_
        rintro e w2 ⟨rfl, hb2⟩
        have HB2 := Lib.hid (bT HB1.out hb2)
        clear hb2
        go_wp2_with (go_at_call 50; ((with_reducible refine (iMoneyOk_any _ _).mono ?_); rintro e w' ⟨rfl, rfl⟩))
        refine (HMW.out _ (HE.out.below HB2.out).t).mono ?_
        rintro e w3 ⟨rfl, hb3⟩
        have HB3 := Lib.hid (bT HB2.out hb3)
        clear hb3
        go_wp2_with fail
        go_ret2
        exact ⟨v, true, rfl, HB3.out, hb.1, hb.2, Or.inl ⟨rfl, HI.out⟩⟩
      · have hne : ((txt (mwT v)).toList == s.toList) = false := by
          rw [Lib.bytes_beq_false_iff]
          intro e
          apply hT
          rw [← e, txt_data]
        have HN : Hid (∀ m, ¬ IsM s.data.toList m) := by
          intro m h
          have := HV.out m h
          subst this
          apply hT
          unfold mwT
          rw [if_pos h.1]
          exact h.2
        have HMW : Hid (∀ w (h : EnvT w), Calls Tryd.prog 19 #[.int .i64 v] w fun e w' => e = .returned (.string (txt (mwT v))) ∧ Below w.heap.size w w') := fun w h => iMoneyWrite_any v w h
        clear hT
        obtain ⟨t, ht⟩ : ∃ t, t = txt (mwT v) := ⟨_, rfl⟩
        rw [← ht] at hne HMW
        clear ht
        go_enter Tryd.func32, Tryd.ntmps32
        go_wp2_with fail
        refine HREP.out.mono ?_
        rintro e w1 ⟨rfl, hb1⟩
        have HB1 := Lib.hid hb1
        clear hb1
        go_wp2_with fail
        refine (HA.out _).mono ?_
        rintro e w2 ⟨rfl, hb2⟩
        have HB2 := Lib.hid (bT HB1.out hb2)
        clear hb2
        go_wp2_with (go_at_call 50; ((with_reducible refine (iMoneyOk_any _ _).mono ?_); rintro e w' ⟨rfl, rfl⟩))
        refine (HMW.out _ (HE.out.below HB2.out).t).mono ?_
        rintro e w3 ⟨rfl, hb3⟩
        have HB3 := Lib.hid (bT HB2.out hb3)
        clear hb3
        go_wp2_with fail
        go_ret2
        exact ⟨0, false, rfl, HB3.out, by omega, by omega, Or.inr ⟨rfl, rfl, HN.out⟩⟩
    · have hm : mOk v = false := by simpa using hm
      have HN : Hid (∀ m, ¬ IsM s.data.toList m) := by
        intro m h
        have := HV.out m h
        subst this
        have h1 := h.1
        rw [hm] at h1
        cases h1
      go_enter Tryd.func32, Tryd.ntmps32
      go_wp2_with fail
      refine HREP.out.mono ?_
      rintro e w1 ⟨rfl, hb1⟩
      have HB1 := Lib.hid hb1
      clear hb1
      go_wp2_with fail
      refine (HA.out _).mono ?_
      rintro e w2 ⟨rfl, hb2⟩
      have HB2 := Lib.hid (bT HB1.out hb2)
      clear hb2
      go_wp2_with (go_at_call 50; ((with_reducible refine (iMoneyOk_any _ _).mono ?_); rintro e w' ⟨rfl, rfl⟩))
      go_ret2
      exact ⟨0, false, rfl, HB2.out, by omega, by omega, Or.inr ⟨rfl, rfl, HN.out⟩⟩
  | range =>
    have HN : Hid (∀ m, ¬ IsM s.data.toList m) := HF.out fun v e => (by rw [ha] at e; cases e)
    have HA : Hid (∀ w, EnvN w → Calls Tryd.prog 63 #[.string (txt Q)] w fun e w' => (∃ (v : Int) (tp : TypeId) (p : Value), e = .returned (.tuple #[.int .i64 v, .iface tp p])) ∧ Below w.heap.size w w') := by
      intro w h
      obtain ⟨tp, p, hv⟩ := h.rng
      refine (Tryd.strconv_Atoi_range_var (txt Q) (by omega) (by rw [txt_data]; exact ha) tp p w hv).mono ?_
      rintro e w1 ⟨N, rfl, _, _, hw⟩
      exact ⟨⟨_, _, _, rfl⟩, hw⟩
    clear ha HF HO
    go_enter Tryd.func32, Tryd.ntmps32
    go_wp2_with fail
    refine HREP.out.mono ?_
    rintro e w1 ⟨rfl, hb1⟩
    have HB1 := Lib.hid hb1
    clear hb1
    go_wp2_with fail
    refine (HA.out _ (HE.out.below HB1.out)).mono ?_
    rintro e w2 ⟨⟨v, tp, p, rfl⟩, hb2⟩
    have HB2 := Lib.hid (bT HB1.out hb2)
    clear hb2
    go_wp2_with fail
    go_ret2
    exact ⟨0, false, rfl, HB2.out, by omega, by omega, Or.inr ⟨rfl, rfl, HN.out⟩⟩
  | _ =>
    have HN : Hid (∀ m, ¬ IsM s.data.toList m) := HF.out fun v e => (by rw [ha] at e; cases e)
    have HA : Hid (∀ w, EnvN w → Calls Tryd.prog 63 #[.string (txt Q)] w fun e w' => (∃ (v : Int) (tp : TypeId) (p : Value), e = .returned (.tuple #[.int .i64 v, .iface tp p])) ∧ Below w.heap.size w w') := by
      intro w h
      obtain ⟨tp, p, hv⟩ := h.syn
      refine (Tryd.strconv_Atoi_syntax_var (txt Q) (by omega) (by rw [txt_data, ha]; exact ⟨fun v e => (by cases e), fun e => (by cases e)⟩) tp p w hv).mono ?_
      rintro e w1 ⟨N, rfl, _, _, hw⟩
      exact ⟨⟨_, _, _, rfl⟩, hw⟩
    clear ha HF HO
    go_enter Tryd.func32, Tryd.ntmps32
    go_wp2_with fail
    refine HREP.out.mono ?_
    rintro e w1 ⟨rfl, hb1⟩
    have HB1 := Lib.hid hb1
    clear hb1
    go_wp2_with fail
    refine (HA.out _ (HE.out.below HB1.out)).mono ?_
    rintro e w2 ⟨⟨v, tp, p, rfl⟩, hb2⟩
    have HB2 := Lib.hid (bT HB1.out hb2)
    clear hb2
    go_wp2_with fail
    go_ret2
    exact ⟨0, false, rfl, HB2.out, by omega, by omega, Or.inr ⟨rfl, rfl, HN.out⟩⟩

set_option maxRecDepth 100000 in
set_option maxHeartbeats 4000000 in
theorem sMoneyRead_any (s : ByteArray) (w : World) (hs : s.size ≤ 1048576) : Calls Tryd.prog 31 #[.string s] w (MonPost s.data.toList w) := by
  have hlen : s.data.toList.length = s.size := by simp
  have HB0 := Lib.hid (Below.refl w.heap.size w)
  by_cases hsh : s.size < 4
  · have HN : Hid (∀ m, ¬ IsM s.data.toList m) := by
      intro m h
      have := mr_short h
      omega
    have wr1 : IntKind.i64.wrap ((s.size : Int) - 3) = (s.size : Int) - 3 := IntWalk.i64_in _ (by omega)
    have c1 : decide ((s.size : Int) - 3 < 1) = true := by simp; omega
    go_enter Tryd.func31, Tryd.ntmps31
    go_wp2_with fail
    go_ret2
    exact ⟨0, false, rfl, HB0.out, by omega, by omega, Or.inr ⟨rfl, rfl, HN.out⟩⟩
  · obtain ⟨k, hk⟩ : ∃ k, s.size = k + 3 := ⟨s.size - 3, by omega⟩
    have k1 : 1 ≤ k := by omega
    have hi0 : k < s.size := by omega
    have hi1 : k + 1 < s.size := by omega
    have hi2 : k + 2 < s.size := by omega
    have hi00 : 0 < s.size := by omega
    have g0 := Lib.hid (sget s hi0)
    have g1 := Lib.hid (sget s hi1)
    have g2 := Lib.hid (sget s hi2)
    have g00 := Lib.hid (sget s hi00)
    have HT : Hid (∀ m, IsM s.data.toList m → (s[k]).toNat = 46 ∧ isDig s[k + 1] ∧ isDig s[k + 2]) := by
      intro m h
      obtain ⟨_, h1, q, d1, d2, h2, h3, h4, h5, _⟩ := mr_told (k := k) h (by omega)
      rw [g0.out] at h1; injection h1 with h1
      rw [g1.out] at h2; injection h2 with h2
      rw [g2.out] at h3; injection h3 with h3
      refine ⟨by rw [h1]; rfl, ?_, ?_⟩
      · rw [h2]; exact dig_isDig h4
      · rw [h3]; exact dig_isDig h5
    have wr1 : IntKind.i64.wrap ((s.size : Int) - 3) = (k : Int) := by rw [hk]; exact (IntWalk.i64_in _ (by omega)).trans (by omega)
    have wr2 : IntKind.i64.wrap ((k : Int) + 1) = (k : Int) + 1 := IntWalk.i64_in _ (by omega)
    have wr3 : IntKind.i64.wrap ((k : Int) + 2) = (k : Int) + 2 := IntWalk.i64_in _ (by omega)
    have HK := Lib.hid hk
    have c1 : decide ((k : Int) < 1) = false := by simp; omega
    clear hk hsh
    by_cases c46 : (s[k]).toNat = 46
    · have c2 : ((s[k]).toNat : Int) = 46 := by omega
      clear c46
      by_cases hd1 : isDig s[k + 1]
      · have HD1 := Lib.hid hd1
        have c3 : (48 : Int) ≤ ((s[k + 1]).toNat : Int) := by have := hd1.1; omega
        have c4 : ((s[k + 1]).toNat : Int) ≤ 57 := by have := hd1.2; omega
        clear hd1
        by_cases hd2 : isDig s[k + 2]
        · have HD2 := Lib.hid hd2
          have c5 : (48 : Int) ≤ ((s[k + 2]).toNat : Int) := by have := hd2.1; omega
          have c6 : ((s[k + 2]).toNat : Int) ≤ 57 := by have := hd2.2; omega
          clear hd2
          have hsl := fun wx => slice_to s k (by omega) wx
          have HL : Hid ((s.extract 0 k).data.toList = s.data.toList.take k) := by
            show _ = _
            rw [Lib.extract_data]
            simp
          have hLs : k = (s.extract 0 k).size := by simp; omega
          obtain ⟨L, hL⟩ : ∃ L, L = s.extract 0 k := ⟨_, rfl⟩
          rw [← hL] at HL hsl hLs
          clear hL
          have HLS := Lib.hid hLs
          have hl0 : 0 < L.size := by omega
          have hl1 : L.size ≤ 1048576 := by omega
          have gl : Hid (s.data.toList[0]? = some L[0]) := by
            have := sget L hl0
            rw [HL.out, List.getElem?_take_of_lt (by omega)] at this
            exact this
          clear hLs
          have wr4 : IntKind.u8.wrap (((s[k + 1]).toNat : Int) - 48) = ((s[k + 1]).toNat : Int) - 48 := by unfold IntKind.wrap; simp [IntKind.bits]; omega
          have wr5 : IntKind.u8.wrap (((s[k + 2]).toNat : Int) - 48) = ((s[k + 2]).toNat : Int) - 48 := by unfold IntKind.wrap; simp [IntKind.bits]; omega
          by_cases h45 : (L[0]).toNat = 45
          · have h45' : ((L[0]).toNat : Int) = 45 := by omega
            have hsl2 : ∀ wx, (Instr.slice 9 (.string L) (some (.int .i64 1)) none none).run Tryd.prog wx = .ok (.string (L.extract 1 L.size)) wx := fun wx => slice_from L 1 (by omega) wx
            have HM : Hid ((L.extract 1 L.size).data.toList = (s.data.toList.take k).drop 1) := by
              show _ = _
              rw [Lib.extract_data, HL.out, List.take_of_length_le (by simp; have := HLS.out; omega)]
            have hms : (L.extract 1 L.size).size ≤ 1048576 := by simp; omega
            obtain ⟨M, hM⟩ : ∃ M, M = L.extract 1 L.size := ⟨_, rfl⟩
            rw [← hM] at hsl2 HM hms
            clear hM
            have HNUM : Hid (Calls Tryd.prog 57 #[.string M] w fun e w' => (∃ v : Int, e = .returned (.int .i64 v) ∧ NumV ((s.data.toList.take k).drop 1) v) ∧ w = w') := by
              refine (l2Num_any M w (by omega)).mono ?_
              rintro e w' ⟨⟨v, rfl, hv⟩, rfl⟩
              rw [HM.out] at hv
              exact ⟨⟨v, rfl, hv⟩, rfl⟩
            have HP : Hid (∀ v m, NumV ((s.data.toList.take k).drop 1) v → IsM s.data.toList m → 0 ≤ v ∧ v ≤ 10000000000 ∧ m = -(v * 100 + (((s[k + 1]).toNat : Int) - 48) * 10 + (((s[k + 2]).toNat : Int) - 48))) :=
              fun v m hv hm => mr_minus (k := k) hm (by have := HK.out; omega) g1.out g2.out gl.out h45 hv
            clear h45
            go_enter Tryd.func31, Tryd.ntmps31
            go_wp2_with fail
            refine HNUM.out.mono ?_
            rintro e w1 ⟨⟨v, rfl, hv⟩, rfl⟩
            have HP2 : Hid (∀ m, IsM s.data.toList m → 0 ≤ v ∧ v ≤ 10000000000 ∧ m = -(v * 100 + (((s[k + 1]).toNat : Int) - 48) * 10 + (((s[k + 2]).toNat : Int) - 48))) := fun m hm => HP.out v m hv hm
            have vb : v < 1000000000000 := by
              rcases hv with ⟨u, hu, _, rfl⟩ | ⟨rfl, _⟩ <;> omega
            clear hv HP HNUM
            by_cases hv0 : v < 0
            · have HN : Hid (∀ m, ¬ IsM s.data.toList m) := fun m hm => by have := (HP2.out m hm).1; omega
              go_wp2_with fail
              go_ret2
              exact ⟨0, false, rfl, HB0.out, by omega, by omega, Or.inr ⟨rfl, rfl, HN.out⟩⟩
            · by_cases hv1 : 10000000000 < v
              · have HN : Hid (∀ m, ¬ IsM s.data.toList m) := fun m hm => by have := (HP2.out m hm).2.1; omega
                go_wp2_with fail
                go_ret2
                exact ⟨0, false, rfl, HB0.out, by omega, by omega, Or.inr ⟨rfl, rfl, HN.out⟩⟩
              · have v0 : 0 ≤ v := by omega
                have v1 : v ≤ 10000000000 := by omega
                clear hv0 hv1 vb
                obtain ⟨x, hx⟩ : ∃ x : Int, x = v * 100 + (((s[k + 1]).toNat : Int) - 48) * 10 + (((s[k + 2]).toNat : Int) - 48) := ⟨_, rfl⟩
                have x0 : 0 ≤ x := by omega
                have x1 : x ≤ 2000000000000 := by omega
                have HP3 : Hid (∀ m, IsM s.data.toList m → m = -x) := fun m hm => (HP2.out m hm).2.2.trans (by rw [hx])
                have w1 : IntKind.i64.wrap (v * 100) = v * 100 := IntWalk.i64_in _ (by omega)
                have w2 : IntKind.i64.wrap (((s[k + 1]).toNat : Int) - 48) = ((s[k + 1]).toNat : Int) - 48 := IntWalk.i64_in _ (by omega)
                have w3 : IntKind.i64.wrap ((((s[k + 1]).toNat : Int) - 48) * 10) = (((s[k + 1]).toNat : Int) - 48) * 10 := IntWalk.i64_in _ (by omega)
                have w4 : IntKind.i64.wrap (v * 100 + (((s[k + 1]).toNat : Int) - 48) * 10) = v * 100 + (((s[k + 1]).toNat : Int) - 48) * 10 := IntWalk.i64_in _ (by omega)
                have w5 : IntKind.i64.wrap (((s[k + 2]).toNat : Int) - 48) = ((s[k + 2]).toNat : Int) - 48 := IntWalk.i64_in _ (by omega)
                have w6 : IntKind.i64.wrap (v * 100 + (((s[k + 1]).toNat : Int) - 48) * 10 + (((s[k + 2]).toNat : Int) - 48)) = x := by rw [hx]; exact IntWalk.i64_in _ (by omega)
                clear hx HP2
                have hTne : s.data.toList ≠ [] := by
                  intro e
                  have h0 := hlen
                  rw [e] at h0
                  simp only [List.length_nil] at h0
                  omega
                have HTN := Lib.hid hTne
                clear hTne
                go_wp2_with fail
                go_quiet (fail)
                go_wp2_with fail
                refine (sMoneyWrite_any (-x) _).mono ?_
                rintro e w1 ⟨rfl, hb⟩
                have HB1 : Hid (Below w.heap.size w w1) := by first | exact bT HB0.out hb | exact bT (HB0.out.drew) hb | exact bT (below_drewN HB0.out _) hb
                clear hb
                by_cases hT : mwT (-x) = s.data.toList
                · have HI : Hid (IsM s.data.toList (-x)) := (mwT_is HTN.out).1 hT
                  have hst : txt (mwT (-x)) = s := by rw [hT, data_txt]
                  have hbd := mOk_bd HI.out.1
                  rw [hst]
                  clear hst hT
                  go_wp2_with fail
                  go_ret2
                  exact ⟨_, true, rfl, HB1.out, by omega, by omega, Or.inl ⟨rfl, HI.out⟩⟩
                · have HN : Hid (∀ m, ¬ IsM s.data.toList m) := by
                    intro m hm
                    have := HP3.out m hm
                    subst this
                    exact hT ((mwT_is HTN.out).2 hm)
                  have hne : ((txt (mwT (-x))).toList == s.toList) = false := by
                    rw [Lib.bytes_beq_false_iff]
                    intro e
                    apply hT
                    rw [← e, txt_data]
                  clear hT
                  obtain ⟨t, ht⟩ : ∃ t, t = txt (mwT (-x)) := ⟨_, rfl⟩
                  rw [← ht] at hne ⊢
                  clear ht
                  go_wp2_with fail
                  go_ret2
                  exact ⟨0, false, rfl, HB1.out, by omega, by omega, Or.inr ⟨rfl, rfl, HN.out⟩⟩
          · have h45' : ((L[0]).toNat : Int) ≠ 45 := by omega
            have HNUM : Hid (Calls Tryd.prog 57 #[.string L] w fun e w' => (∃ v : Int, e = .returned (.int .i64 v) ∧ NumV (s.data.toList.take k) v) ∧ w = w') := by
              refine (l2Num_any L w (by omega)).mono ?_
              rintro e w' ⟨⟨v, rfl, hv⟩, rfl⟩
              rw [HL.out] at hv
              exact ⟨⟨v, rfl, hv⟩, rfl⟩
            have HP : Hid (∀ v m, NumV (s.data.toList.take k) v → IsM s.data.toList m → 0 ≤ v ∧ v ≤ 10000000000 ∧ m = v * 100 + (((s[k + 1]).toNat : Int) - 48) * 10 + (((s[k + 2]).toNat : Int) - 48)) :=
              fun v m hv hm => mr_plus (k := k) hm (by have := HK.out; omega) g1.out g2.out gl.out h45 hv
            clear h45
            go_enter Tryd.func31, Tryd.ntmps31
            go_wp2_with fail
            refine HNUM.out.mono ?_
            rintro e w1 ⟨⟨v, rfl, hv⟩, rfl⟩
            have HP2 : Hid (∀ m, IsM s.data.toList m → 0 ≤ v ∧ v ≤ 10000000000 ∧ m = v * 100 + (((s[k + 1]).toNat : Int) - 48) * 10 + (((s[k + 2]).toNat : Int) - 48)) := fun m hm => HP.out v m hv hm
            have vb : v < 1000000000000 := by
              rcases hv with ⟨u, hu, _, rfl⟩ | ⟨rfl, _⟩ <;> omega
            clear hv HP HNUM
            by_cases hv0 : v < 0
            · have HN : Hid (∀ m, ¬ IsM s.data.toList m) := fun m hm => by have := (HP2.out m hm).1; omega
              go_wp2_with fail
              go_ret2
              exact ⟨0, false, rfl, HB0.out, by omega, by omega, Or.inr ⟨rfl, rfl, HN.out⟩⟩
            · by_cases hv1 : 10000000000 < v
              · have HN : Hid (∀ m, ¬ IsM s.data.toList m) := fun m hm => by have := (HP2.out m hm).2.1; omega
                go_wp2_with fail
                go_ret2
                exact ⟨0, false, rfl, HB0.out, by omega, by omega, Or.inr ⟨rfl, rfl, HN.out⟩⟩
              · have v0 : 0 ≤ v := by omega
                have v1 : v ≤ 10000000000 := by omega
                clear hv0 hv1 vb
                obtain ⟨x, hx⟩ : ∃ x : Int, x = v * 100 + (((s[k + 1]).toNat : Int) - 48) * 10 + (((s[k + 2]).toNat : Int) - 48) := ⟨_, rfl⟩
                have x0 : 0 ≤ x := by omega
                have x1 : x ≤ 2000000000000 := by omega
                have HP3 : Hid (∀ m, IsM s.data.toList m → m = x) := fun m hm => (HP2.out m hm).2.2.trans (by rw [hx])
                have w1 : IntKind.i64.wrap (v * 100) = v * 100 := IntWalk.i64_in _ (by omega)
                have w2 : IntKind.i64.wrap (((s[k + 1]).toNat : Int) - 48) = ((s[k + 1]).toNat : Int) - 48 := IntWalk.i64_in _ (by omega)
                have w3 : IntKind.i64.wrap ((((s[k + 1]).toNat : Int) - 48) * 10) = (((s[k + 1]).toNat : Int) - 48) * 10 := IntWalk.i64_in _ (by omega)
                have w4 : IntKind.i64.wrap (v * 100 + (((s[k + 1]).toNat : Int) - 48) * 10) = v * 100 + (((s[k + 1]).toNat : Int) - 48) * 10 := IntWalk.i64_in _ (by omega)
                have w5 : IntKind.i64.wrap (((s[k + 2]).toNat : Int) - 48) = ((s[k + 2]).toNat : Int) - 48 := IntWalk.i64_in _ (by omega)
                have w6 : IntKind.i64.wrap (v * 100 + (((s[k + 1]).toNat : Int) - 48) * 10 + (((s[k + 2]).toNat : Int) - 48)) = x := by rw [hx]; exact IntWalk.i64_in _ (by omega)
                clear hx HP2
                have hTne : s.data.toList ≠ [] := by
                  intro e
                  have h0 := hlen
                  rw [e] at h0
                  simp only [List.length_nil] at h0
                  omega
                have HTN := Lib.hid hTne
                clear hTne
                go_wp2_with fail
                go_quiet (fail)
                go_wp2_with fail
                refine (sMoneyWrite_any x _).mono ?_
                rintro e w1 ⟨rfl, hb⟩
                have HB1 : Hid (Below w.heap.size w w1) := by first | exact bT HB0.out hb | exact bT (HB0.out.drew) hb | exact bT (below_drewN HB0.out _) hb
                clear hb
                by_cases hT : mwT x = s.data.toList
                · have HI : Hid (IsM s.data.toList x) := (mwT_is HTN.out).1 hT
                  have hst : txt (mwT x) = s := by rw [hT, data_txt]
                  have hbd := mOk_bd HI.out.1
                  rw [hst]
                  clear hst hT
                  go_wp2_with fail
                  go_ret2
                  exact ⟨_, true, rfl, HB1.out, by omega, by omega, Or.inl ⟨rfl, HI.out⟩⟩
                · have HN : Hid (∀ m, ¬ IsM s.data.toList m) := by
                    intro m hm
                    have := HP3.out m hm
                    subst this
                    exact hT ((mwT_is HTN.out).2 hm)
                  have hne : ((txt (mwT x)).toList == s.toList) = false := by
                    rw [Lib.bytes_beq_false_iff]
                    intro e
                    apply hT
                    rw [← e, txt_data]
                  clear hT
                  obtain ⟨t, ht⟩ : ∃ t, t = txt (mwT x) := ⟨_, rfl⟩
                  rw [← ht] at hne ⊢
                  clear ht
                  go_wp2_with fail
                  go_ret2
                  exact ⟨0, false, rfl, HB1.out, by omega, by omega, Or.inr ⟨rfl, rfl, HN.out⟩⟩
        · have HN : Hid (∀ m, ¬ IsM s.data.toList m) := fun m h => hd2 (HT.out m h).2.2
          have hd : ((s[k + 2]).toNat : Int) < 48 ∨ 57 < ((s[k + 2]).toNat : Int) := by unfold isDig at hd2; omega
          clear hd2
          rcases hd with hd | hd
          all_goals
            go_enter Tryd.func31, Tryd.ntmps31
            go_wp2_with fail
            go_ret2
            exact ⟨0, false, rfl, HB0.out, by omega, by omega, Or.inr ⟨rfl, rfl, HN.out⟩⟩
      · have HN : Hid (∀ m, ¬ IsM s.data.toList m) := fun m h => hd1 (HT.out m h).2.1
        have hd : ((s[k + 1]).toNat : Int) < 48 ∨ 57 < ((s[k + 1]).toNat : Int) := by unfold isDig at hd1; omega
        clear hd1
        rcases hd with hd | hd
        all_goals
          go_enter Tryd.func31, Tryd.ntmps31
          go_wp2_with fail
          go_ret2
          exact ⟨0, false, rfl, HB0.out, by omega, by omega, Or.inr ⟨rfl, rfl, HN.out⟩⟩
    · have HN : Hid (∀ m, ¬ IsM s.data.toList m) := fun m h => c46 (HT.out m h).1
      have c2 : ((s[k]).toNat : Int) ≠ 46 := by omega
      clear c46
      go_enter Tryd.func31, Tryd.ntmps31
      go_wp2_with fail
      go_ret2
      exact ⟨0, false, rfl, HB0.out, by omega, by omega, Or.inr ⟨rfl, rfl, HN.out⟩⟩

end My
end Go.Proofs.YtopijgkmgpkmnaaDoor
