/- Numbers out of texts: the reference's l2Num, the program's number; what five listed variables give. -/
import Derived.Test.YtopijgkmgpkmnaaDoorWireB
import Derived.Test.YtopijgkmgpkmnaaDoorNumP
import Derived.Test.YtopijgkmgpkmnaaDoorShelfB
import Derived.ChangeAgain
namespace Go.Proofs.YtopijgkmgpkmnaaDoor
open Go.RowKit Go.Deep
set_option linter.unusedVariables false
namespace My

def ErrAt (w : World) (n : String) : Prop := ∃ tp p, w.var? Tryd.prog n = some #[.iface tp p]
theorem ErrAt.below {w w' : World} {n : String} (h : ErrAt w n) (hb : Below w.heap.size w w') : ErrAt w' n := by
  obtain ⟨tp, p, h⟩ := h
  refine ⟨tp, p, ?_⟩
  unfold World.var? at h ⊢
  cases hg : Tryd.prog.globalNamed n with
  | none => rw [hg] at h; simp at h
  | some g =>
    rw [hg] at h
    simp only [Option.bind_some] at h ⊢
    have hlt : g < w.heap.size := by
      rcases Nat.lt_or_ge g w.heap.size with h' | h'
      · exact h'
      · rw [Array.getElem?_eq_none h'] at h; simp at h
    rw [hb.block g hlt]
    exact h
structure EnvN (w : World) : Prop where
  t : EnvT w
  syn : ErrAt w "strconv.ErrSyntax"
  rng : ErrAt w "strconv.ErrRange"
  sh : w.ShapedOpen Tryd.prog
theorem EnvN.below {w w' : World} (h : EnvN w) (hb : Below w.heap.size w w') : EnvN w' :=
  ⟨h.t.below hb, h.syn.below hb, h.rng.below hb, h.sh.keptBut (may := fun _ => False) (hb.frame _) (fun _ h => h.elim)⟩

/-- The program's number: of a text that Itoa writes, it; else false. -/
def NumberPost (s : List UInt8) (w : World) (e : Ending) (w' : World) : Prop :=
  ∃ (v : Int) (b : Bool), e = .returned (.tuple #[.int .i64 v, .bool b]) ∧ (b = true → s = Lib.itoa v) ∧ (∀ u : Int, -9223372036854775808 ≤ u → u ≤ 9223372036854775807 → s = Lib.itoa u → v = u ∧ b = true) ∧ -9223372036854775808 ≤ v ∧ v ≤ 9223372036854775807 ∧ Below w.heap.size w w'

theorem below_bw (w : World) (e : TypeId) (s : ByteArray) : Below w.heap.size w (Lib.bytesWorld w e s) :=
  ⟨rfl, rfl, rfl, by rw [Lib.bytesWorld_size]; omega, fun k hk => Lib.bytesWorld_at_old w e s k hk⟩

set_option maxRecDepth 100000 in
set_option maxHeartbeats 1000000 in
theorem number_any (s : ByteArray) (w : World) (hs : s.size ≤ 1048576) (h : EnvN w) : Calls Tryd.prog 59 #[.string s] w (NumberPost s.data.toList w) := by
  have H := Lib.hid h
  clear h
  cases ha : Lib.atoiAll s.data.toList with
  | ok v =>
    have hr := atoi_range ha
    have HA : Hid (Calls Tryd.prog 63 #[.string s] w fun e w' => e = .returned (.tuple #[.int .i64 v, .nilIface]) ∧ Below w.heap.size w w') := by
      refine (Tryd.strconv_Atoi_ok s (by omega) v ha w).mono ?_
      rintro e w' ⟨rfl, hw⟩
      refine ⟨rfl, ?_⟩
      rcases hw with rfl | ⟨t, rfl⟩
      · exact Below.refl _ _
      · exact below_bw _ _ _
    have HI := Lib.hid (fun w (h : EnvT w) => itoa_any v w hr.1 hr.2 h)
    have HU : Hid (∀ u : Int, -9223372036854775808 ≤ u → u ≤ 9223372036854775807 → s.data.toList = Lib.itoa u → v = u) := by
      intro u h0 h1 e
      have := atoi_itoa u h0 h1
      rw [← e, ha] at this
      injection this
    have HR := Lib.hid hr
    clear ha hr
    by_cases hb : s = txt (Lib.itoa v)
    · have HB : Hid (s.data.toList = Lib.itoa v) := by show _ = _; rw [hb, txt_data]
      subst hb
      obtain ⟨t, ht⟩ : ∃ t, t = txt (Lib.itoa v) := ⟨_, rfl⟩
      have HI : Hid (∀ w (h : EnvT w), Calls Tryd.prog 42 #[.int .i64 v] w fun e w' => e = .returned (.string t) ∧ Below w.heap.size w w') := by
        rw [ht]; exact HI.out
      rw [← ht] at HA HB HU hs ⊢
      clear ht
      go_enter Tryd.func59, Tryd.ntmps59
      go_wp2_with fail
      refine HA.out.mono ?_
      rintro e w1 ⟨rfl, hw⟩
      have B1 := Lib.hid hw
      have HT1 := Lib.hid ((H.out.t).below hw)
      clear hw
      go_wp2_with (go_at_call 42; ((with_reducible refine (HI.out _ HT1.out).mono ?_); rintro e w2 ⟨rfl, hb2⟩; have B2 := Lib.hid hb2; clear hb2))
      all_goals
        go_ret2
        exact ⟨v, true, by simp, fun _ => HB.out, fun u h0 h1 e => ⟨HU.out u h0 h1 e, rfl⟩, HR.out.1, HR.out.2, bT B1.out B2.out⟩
    · have HB : Hid (∀ u : Int, -9223372036854775808 ≤ u → u ≤ 9223372036854775807 → s.data.toList ≠ Lib.itoa u) := by
        intro u h0 h1 e
        apply hb
        rw [HU.out u h0 h1 e, ← e, data_txt]
      obtain ⟨t, ht⟩ : ∃ t, t = txt (Lib.itoa v) := ⟨_, rfl⟩
      have HI : Hid (∀ w (h : EnvT w), Calls Tryd.prog 42 #[.int .i64 v] w fun e w' => e = .returned (.string t) ∧ Below w.heap.size w w') := by
        rw [ht]; exact HI.out
      rw [← ht] at hb
      clear ht
      have hne : (t.toList == s.toList) = false := by rw [Lib.bytes_beq_false_iff]; exact fun e => hb e.symm
      go_enter Tryd.func59, Tryd.ntmps59
      go_wp2_with fail
      refine HA.out.mono ?_
      rintro e w1 ⟨rfl, hw⟩
      have B1 := Lib.hid hw
      have HT1 := Lib.hid ((H.out.t).below hw)
      clear hw
      go_wp2_with (go_at_call 42; ((with_reducible refine (HI.out _ HT1.out).mono ?_); rintro e w2 ⟨rfl, hb2⟩; have B2 := Lib.hid hb2; clear hb2))
      all_goals
        go_ret2
        exact ⟨v, false, by simp, (fun h => by cases h), fun u h0 h1 e => absurd e (HB.out u h0 h1), HR.out.1, HR.out.2, bT B1.out B2.out⟩
  | range =>
    have HB : Hid (∀ u : Int, -9223372036854775808 ≤ u → u ≤ 9223372036854775807 → s.data.toList ≠ Lib.itoa u) := by
      intro u h0 h1 e
      have := atoi_itoa u h0 h1
      rw [← e, ha] at this
      cases this
    obtain ⟨tp, p, hv⟩ := H.out.rng
    have HA := Lib.hid (Tryd.strconv_Atoi_range_var s (by omega) ha tp p w hv)
    have hsat : -9223372036854775808 ≤ Lib.atoiSat s.data.toList ∧ Lib.atoiSat s.data.toList ≤ 9223372036854775807 := by
      unfold Lib.atoiSat
      split <;> omega
    obtain ⟨v, hvv⟩ : ∃ v, v = Lib.atoiSat s.data.toList := ⟨_, rfl⟩
    rw [← hvv] at hsat HA
    clear ha hv hvv
    go_enter Tryd.func59, Tryd.ntmps59
    go_wp2_with fail
    refine HA.out.mono ?_
    rintro e w1 ⟨N, rfl, _, _, hw⟩
    have B1 := Lib.hid hw
    clear hw
    go_wp2_with fail
    go_ret2
    exact ⟨v, false, by simp, (fun h => by cases h), fun u h0 h1 e => absurd e (HB.out u h0 h1), hsat.1, hsat.2, B1.out⟩
  | _ =>
    have HB : Hid (∀ u : Int, -9223372036854775808 ≤ u → u ≤ 9223372036854775807 → s.data.toList ≠ Lib.itoa u) := by
      intro u h0 h1 e
      have := atoi_itoa u h0 h1
      rw [← e, ha] at this
      cases this
    obtain ⟨tp, p, hv⟩ := H.out.syn
    have HA := Lib.hid (Tryd.strconv_Atoi_syntax_var s (by omega) ⟨fun v e => (by rw [ha] at e; cases e), fun e => (by rw [ha] at e; cases e)⟩ tp p w hv)
    clear ha hv
    go_enter Tryd.func59, Tryd.ntmps59
    go_wp2_with fail
    refine HA.out.mono ?_
    rintro e w1 ⟨N, rfl, _, _, hw⟩
    have B1 := Lib.hid hw
    clear hw
    go_wp2_with fail
    go_ret2
    exact ⟨0, false, by simp, (fun h => by cases h), fun u h0 h1 e => absurd e (HB.out u h0 h1), by omega, by omega, B1.out⟩

set_option maxRecDepth 100000 in
set_option maxHeartbeats 1000000 in
theorem l2Num_any (s : ByteArray) (w : World) (hs : s.size ≤ 1048576) : Calls Tryd.prog 57 #[.string s] w fun e w' => (∃ v : Int, e = .returned (.int .i64 v) ∧ NumV s.data.toList v) ∧ w = w' := by
  have hlen : s.data.toList.length = s.size := by simp
  by_cases h1 : s.size < 1 ∨ 12 < s.size
  · have HN := Lib.hid (num_short (s := s.data.toList) (by rw [hlen]; exact h1))
    have hin : inB (s.size : Int) 1 12 = false := by simp [inB]; omega
    go_enter Tryd.func57, Tryd.ntmps57
    go_wp2_with (go_at_call 67; ((with_reducible refine (l1In_any _ _ _ _).mono ?_); rintro e w' ⟨rfl, rfl⟩))
    go_ret
    exact ⟨⟨_, rfl, HN.out⟩, rfl⟩
  · have hin : inB (s.size : Int) 1 12 = true := by simp [inB]; omega
    have s1 : 1 ≤ s.size := by omega
    have s2 : s.size ≤ 12 := by omega
    have s0 : 0 < s.size := by omega
    clear h1
    have HE : Hid ((∀ x ∈ s.data.toList, isDig x) → (∀ c, 1 < s.data.toList.length → s.data.toList[0]? = some c → c.toNat ≠ 48) → NumV s.data.toList (valD s.data.toList)) := fun hd hz => num_good (by omega) (by omega) hz hd
    have hget : ∀ k (hk : k < s.size), s.data.toList[k]? = some s[k] := by
      intro k hk
      rw [List.getElem?_eq_getElem (by simpa using hk)]
      rfl
    have HG := Lib.hid hget
    clear hget
    have HZ : Hid (1 < s.size → (s[0]).toNat = 48 → NumV s.data.toList (-1)) := fun h h0 => num_zero (by omega) (HG.out 0 s0) h0
    have HZ2 : Hid ((1 < s.size → (s[0]).toNat ≠ 48) → ∀ c, 1 < s.data.toList.length → s.data.toList[0]? = some c → c.toNat ≠ 48) := by
      intro h c hl hc
      rw [HG.out 0 s0] at hc
      injection hc with hc
      subst hc
      exact h (by omega)
    have HBad : Hid (∀ k (hk : k < s.size), ¬ isDig s[k] → NumV s.data.toList (-1)) := fun k hk hb => num_bad (HG.out k hk) hb
    have HTake : Hid (∀ k (hk : k < s.size), s.data.toList.take (k + 1) = s.data.toList.take k ++ [s[k]]) := fun k hk => take_snoc s k hk
    have HFull : Hid (s.data.toList.take s.size = s.data.toList) := List.take_of_length_le (by omega)
    by_cases h48 : (1 < s.size ∧ (s[0]).toNat = 48)
    · have HN := Lib.hid (HZ.out h48.1 h48.2)
      have x1 := h48.1
      have x2 : ((s[0]).toNat : Int) = 48 := by omega
      clear h48
      go_enter Tryd.func57, Tryd.ntmps57
      go_wp2_with (go_at_call 67; ((with_reducible refine (l1In_any _ _ _ _).mono ?_); rintro e w' ⟨rfl, rfl⟩))
      go_ret
      exact ⟨⟨_, rfl, HN.out⟩, rfl⟩
    · have HNZ := Lib.hid (HZ2.out (fun h1 h2 => h48 ⟨h1, h2⟩))
      have loop : s.size ≤ 1 ∨ (1 < s.size ∧ ((s[0]).toNat : Int) ≠ 48) := by omega
      clear h48
      rcases loop with x1 | ⟨x1, x2⟩
      all_goals
        go_enter Tryd.func57, Tryd.ntmps57
        go_wp2_with (go_at_call 67; ((with_reducible refine (l1In_any _ _ _ _).mono ?_); rintro e w' ⟨rfl, rfl⟩))
        go_loop [3, 4] (fun n i => ∃ k : Nat, k ≤ s.size ∧ i = .int .i64 k ∧ ∃ u : Nat, n = .int .i64 u ∧ u = valD (s.data.toList.take k) ∧ u < 10 ^ k ∧ (∀ x ∈ s.data.toList.take k, isDig x)) (fun _ i => s.size - (intOf i).toNat)
        case atStart => exact ⟨0, Nat.zero_le _, rfl, 0, rfl, by simp [valD], by simp, by simp⟩
        case round =>
          obtain ⟨k, hk, rfl, u, rfl, hu, hlt10, hall⟩ := hrel
          have HU := Lib.hid hu
          have HAL := Lib.hid hall
          have u1 : u < 1000000000000 := by
            have : 10 ^ k ≤ 10 ^ 12 := Nat.pow_le_pow_right (by omega) (by omega)
            omega
          have HP := Lib.hid hlt10
          clear hu hall hlt10
          by_cases hlt : k < s.size
          · have HB1 := Lib.hid (HBad.out k hlt)
            have HT1 := Lib.hid (HTake.out k hlt)
            by_cases hd : 48 ≤ (s[k]).toNat ∧ (s[k]).toNat ≤ 57
            · have HD : Hid (isDig s[k]) := hd
              have d1 : (48 : Int) ≤ ((s[k]).toNat : Int) := by omega
              have d2 : ((s[k]).toNat : Int) ≤ 57 := by omega
              have wr1 : IntKind.u8.wrap (((s[k]).toNat : Int) - 48) = ((s[k]).toNat : Int) - 48 := by unfold IntKind.wrap; simp [IntKind.bits]; omega
              clear hd
              go_wp2_with fail
              go_round
              case rel =>
                first
                  | refine ⟨k + 1, by omega, by go_num, u * 10 + ((s[k]).toNat - 48), by go_num, ?_, ?_, ?_⟩
                  | refine ⟨_, _, _, ⟨k + 1, by omega, rfl, u * 10 + ((s[k]).toNat - 48), rfl, ?_, ?_, ?_⟩, rfl, by go_num, by go_num⟩
                · rw [HT1.out, valD_snoc, ← HU.out]
                · have := HP.out
                  rw [Nat.pow_succ]
                  omega
                · rw [HT1.out]
                  intro x hx
                  rw [List.mem_append, List.mem_singleton] at hx
                  rcases hx with hx | rfl
                  · exact HAL.out x hx
                  · exact HD.out
              case measure => simp [intOf]; omega
            · have HN := Lib.hid (HB1.out hd)
              have d1 : ((s[k]).toNat : Int) < 48 ∨ 57 < ((s[k]).toNat : Int) := by omega
              clear hd
              rcases d1 with d1 | d1
              all_goals
                go_wp2_with fail
                go_ret
                exact ⟨⟨_, rfl, HN.out⟩, rfl⟩
          · have e : k = s.size := by omega
            have HN : Hid (NumV s.data.toList (u : Int)) := by
              have h1 := HU.out
              have h2 := HAL.out
              rw [e, HFull.out] at h1 h2
              rw [h1]
              exact HE.out h2 HNZ.out
            go_wp2_with fail
            go_ret
            exact ⟨⟨_, rfl, HN.out⟩, rfl⟩

end My
end Go.Proofs.YtopijgkmgpkmnaaDoor
