/- The reference's MoneyShare. -/
import Derived.Test.YtmjemgelekceoaaInts
import Derived.Deep.AppendLies
import Derived.OwnWalk
import Derived.BigQuiet
import Derived.Deep.QuietTactic
namespace Go.Proofs.Ytmjemgelekceoaa
open Go.RowKit Go.Deep
set_option linter.unusedVariables false
namespace My

/-- What l2Weights returns. -/
def weightV (ws : Nat → Int) (n : Nat) : Int := if (List.range n).all (wB ws) && decide (n ≤ 8) && decide (sumF ws n ≤ 1000000) then sumF ws n else 0

theorem all_no {p : Nat → Bool} {n k : Nat} (hk : k < n) (h : p k = false) : (List.range n).all p = false := by
  rw [List.all_eq_false]; exact ⟨k, by simpa using hk, by simp [h]⟩
theorem all_yes {p : Nat → Bool} {n : Nat} (h : ∀ j, j < n → p j = true) : (List.range n).all p = true := by simpa using h

set_option maxHeartbeats 1000000 in
theorem l2Weights_any (b off n cap : Nat) (ws : Nat → Int) (w : World) (h : n = 0 ∨ IntsAt w b off n ws) (hn : n ≤ 1048576) (hc : n ≤ cap) :
    Calls Try.prog 19 #[.slice (some ⟨b, off, none⟩) n cap] w fun e w' => e = .returned (.int .i64 (weightV ws n)) ∧ w = w' := by
  have H := Lib.hid h
  clear h
  go_enter Try.func19, Try.ntmps19
  go_wp2_with fail
  go_loop [3, 4] (fun s i => ∃ k : Nat, k ≤ n ∧ i = .int .i64 k ∧ s = .int .i64 (sumF ws k) ∧ 0 ≤ sumF ws k ∧ sumF ws k ≤ k * 1000000 ∧ (∀ j, j < k → wB ws j = true)) (fun _ i => n - (intOf i).toNat)
  case atStart => exact ⟨0, Nat.zero_le _, rfl, rfl, by simp [sumF], by simp [sumF], by omega⟩
  case round =>
    obtain ⟨k, hk, rfl, rfl, s0, s1, hal⟩ := hrel
    have HAL := Lib.hid hal
    clear hal
    by_cases hlt : k < n
    · have ck : w.cell? ⟨b, off + k, none⟩ = some (.int .i64 (ws k)) := by
        rcases H.out with h0 | h0
        · omega
        · exact h0.c k hlt
      cases hw : wB ws k
      · have hw' : inB (ws k) 0 1000000 = false := hw
        have HN : Hid (weightV ws n = 0) := by show weightV ws n = 0; simp [weightV, all_no hlt hw]
        clear hw
        go_wp2_with (go_at_call 30; ((with_reducible refine (l1In_any _ _ _ _).mono ?_); rintro e w' ⟨rfl, rfl⟩))
        go_ret
        exact ⟨by rw [HN.out]; rfl, rfl⟩
      · have hw' : inB (ws k) 0 1000000 = true := hw
        have hwb := inB_true hw'
        have HW := Lib.hid hw
        have HS : Hid (sumF ws (k + 1) = sumF ws k + ws k) := rfl
        clear hw
        go_wp2_with (go_at_call 30; ((with_reducible refine (l1In_any _ _ _ _).mono ?_); rintro e w' ⟨rfl, rfl⟩))
        go_round
        case rel => exact ⟨k + 1, by omega, by go_num, by rw [HS.out], by rw [HS.out]; omega, by rw [HS.out]; omega, all_succ HAL.out HW.out⟩
        case measure => simp [intOf]; omega
    · have e : k = n := by omega
      subst e
      have HA := Lib.hid (all_yes HAL.out)
      by_cases h8 : 8 < k
      · have HN : Hid (weightV ws k = 0) := by show weightV ws k = 0; simp [weightV]; omega
        go_wp2_with fail
        go_ret
        exact ⟨by rw [HN.out]; rfl, rfl⟩
      · by_cases hs : 1000000 < sumF ws k
        · have HN : Hid (weightV ws k = 0) := by show weightV ws k = 0; simp [weightV]; omega
          go_wp2_with fail
          go_ret
          exact ⟨by rw [HN.out]; rfl, rfl⟩
        · have HN : Hid (weightV ws k = sumF ws k) := by show weightV ws k = sumF ws k; simp only [weightV, HA.out]; simp; omega
          go_wp2_with fail
          go_ret
          exact ⟨by rw [HN.out]; rfl, rfl⟩

theorem news_one (w : World) (v : Value) (t : TypeId) : ∀ j u, [v][j]? = some u → (w.alloc (.cells #[v] t)).cell? (Addr.add ⟨w.heap.size, 0, none⟩ j) = some u := by
  intro j u h
  have : j = 0 := by
    cases j with
    | zero => rfl
    | succ j => simp at h
  subst this
  simp at h; subst h
  have hb := blk_alloc_new w (.cells #[v] t)
  have e : Addr.add ⟨w.heap.size, 0, none⟩ 0 = ⟨w.heap.size, 0, none⟩ := rfl
  rw [e]
  simp only [World.cell?, hb]; rfl

/-- What l2Share keeps in its first loop. -/
structure ShareRel (w : World) (T all : Int) (ws : Nat → Int) (k g7 c7 g8 c8 : Nat) (wr : World) : Prop where
  o7 : wr.ownsRow w.heap.size 3 1 (.slice (some ⟨g7, 0, none⟩) k c7) k (intCells (quoF T all ws) k)
  o8 : wr.ownsRow w.heap.size 3 1 (.slice (some ⟨g8, 0, none⟩) k c8) k (intCells (remF T all ws) k)
  ne : g7 ≠ g8
  b : Below w.heap.size w wr

/-- What l2Share has shared behind m cents. -/
def shareDone (T all : Int) (ws : Nat → Int) (n m : Nat) : Nat → Int := (outS n (quoF T all ws) (remF T all ws) m).1

/-- A slice of n ints of its own behind w. -/
def SlRes (w : World) (n : Nat) (F : Nat → Int) (v : Value) (w' : World) : Prop := ∃ g c, v = .slice (some ⟨g, 0, none⟩) n c ∧ w.heap.size ≤ g ∧ n ≤ c ∧ c ≤ maxLen ∧ OwnI w' g n F ∧ Below w.heap.size w w'

/-- Between the two appends of a round. -/
structure ShareMid (w : World) (T all : Int) (ws : Nat → Int) (k g7 c7 g8 c8 : Nat) (wr : World) : Prop where
  o7 : wr.ownsRow w.heap.size 3 1 (.slice (some ⟨g7, 0, none⟩) (k + 1) c7) (k + 1) (intCells (quoF T all ws) (k + 1))
  o8 : wr.ownsRow w.heap.size 3 1 (.slice (some ⟨g8, 0, none⟩) k c8) k (intCells (remF T all ws) k)
  ne : g7 ≠ g8
  b : Below w.heap.size w wr

theorem mid_of {w wr w1 : World} {T all : Int} {ws : Nat → Int} {k g7 c7 g8 c8 g7' c7' : Nat} (h : ShareRel w T all ws k g7 c7 g8 c8 wr)
    (hown : w1.ownsRow w.heap.size 3 1 (.slice (some ⟨g7', 0, none⟩) (k + 1) c7') (k + 1) (intCells (quoF T all ws) k ++ [.int .i64 (T * ws k / all)]))
    (hgrow : (wr.alloc (.cells #[.int .i64 (T * ws k / all)] 3)).grownBy w1 (Value.ownBlock (.slice (some ⟨g7, 0, none⟩) k c7)))
    (hat : Value.ownBlock (.slice (some ⟨g7, 0, none⟩) k c7) = some g7' ∨ g7' = wr.heap.size + 1) : ShareMid w T all ws k g7' c7' g8 c8 w1 := by
  obtain ⟨w7, b7, l7, l7'⟩ := ownI_of_owns h.o7
  obtain ⟨w8, b8, l8, l8'⟩ := ownI_of_owns h.o8
  have hne := h.ne
  have h8lt := w8.lt
  have hsz := h.b.size
  refine ⟨?_, (h.o8.kept (World.grownBy_alloc wr (.cells #[.int .i64 (T * ws k / all)] 3) none) (Or.inr (by simp [Value.ownBlock]))).kept hgrow (Or.inr (by simp [Value.ownBlock]; omega)), ?_, ?_⟩
  · rw [intCells_succ]; exact hown
  · rcases hat with h | h
    · simp [Value.ownBlock] at h; omega
    · omega
  · exact (h.b.alloc hsz _).grown hgrow (by simp; omega) (by intro q hq; simp [Value.ownBlock] at hq; omega)

theorem rel_of {w w1 w2 : World} {T all : Int} {ws : Nat → Int} {k g7 c7 g8 c8 g8' c8' : Nat} (h : ShareMid w T all ws k g7 c7 g8 c8 w1)
    (hown : w2.ownsRow w.heap.size 3 1 (.slice (some ⟨g8', 0, none⟩) (k + 1) c8') (k + 1) (intCells (remF T all ws) k ++ [.int .i64 (T * ws k % all)]))
    (hgrow : (w1.alloc (.cells #[.int .i64 (T * ws k % all)] 3)).grownBy w2 (Value.ownBlock (.slice (some ⟨g8, 0, none⟩) k c8)))
    (hat : Value.ownBlock (.slice (some ⟨g8, 0, none⟩) k c8) = some g8' ∨ g8' = w1.heap.size + 1) : ShareRel w T all ws (k + 1) g7 c7 g8' c8' w2 := by
  obtain ⟨w7, b7, l7, l7'⟩ := ownI_of_owns h.o7
  obtain ⟨w8, b8, l8, l8'⟩ := ownI_of_owns h.o8
  have hne := h.ne
  have h7lt := w7.lt
  have hsz := h.b.size
  refine ⟨(h.o7.kept (World.grownBy_alloc w1 (.cells #[.int .i64 (T * ws k % all)] 3) none) (Or.inr (by simp [Value.ownBlock]))).kept hgrow (Or.inr (by simp [Value.ownBlock]; omega)), ?_, ?_, ?_⟩
  · rw [intCells_succ]; exact hown
  · rcases hat with h | h
    · simp [Value.ownBlock] at h; omega
    · omega
  · exact (h.b.alloc hsz _).grown hgrow (by simp; omega) (by intro q hq; simp [Value.ownBlock] at hq; omega)

set_option maxHeartbeats 4000000 in
set_option maxRecDepth 100000 in
theorem l2Share_any (T all : Int) (b off n cap : Nat) (ws : Nat → Int) (w : World) (h : IntsAt w b off n ws) (hn : 1 ≤ n) (hn8 : n ≤ 8) (hc : n ≤ cap)
    (T0 : 0 ≤ T) (T1 : T ≤ 1000000000000) (a0 : 1 ≤ all) (a1 : all ≤ 1000000) (hws : ∀ i, i < n → 0 ≤ ws i ∧ ws i ≤ 1000000) :
    Calls Try.prog 21 #[.int .i64 T, .slice (some ⟨b, off, none⟩) n cap, .int .i64 all] w fun e w' => ∃ v, e = .returned v ∧ SlRes w n (shareDone T all ws n (restF T all ws n).toNat) v w' := by
  obtain ⟨i0, hi0, hz0, hz1, hz2⟩ := info_parts infoInt
  have H := Lib.hid h
  have HWS := Lib.hid hws
  have hbl := h.lt
  clear h hws
  go_enter Try.func21, Try.ntmps21
  go_wp2_with fail
  go_loopw [7, 8, 9, 10] (fun v7 v8 r i wr => ∃ k g7 c7 g8 c8 : Nat, k ≤ n ∧ i = .int .i64 k ∧ v7 = .slice (some ⟨g7, 0, none⟩) k c7 ∧ v8 = .slice (some ⟨g8, 0, none⟩) k c8 ∧ r = .int .i64 (restF T all ws k) ∧
      -(k * 1000000000000000000) ≤ restF T all ws k ∧ restF T all ws k ≤ 1000000000000 ∧ ShareRel w T all ws k g7 c7 g8 c8 wr) (fun _ _ _ i _ => n - (intOf i).toNat)
  case atStart =>
    refine ⟨0, w.heap.size, 0, w.heap.size + 1, 0, Nat.zero_le _, rfl, rfl, rfl, by simp [restF, sumF], by simp [restF, sumF]; omega, by simp [restF, sumF]; omega, ⟨?_, ?_, by omega, ?_⟩⟩
    · exact (owns_empty (Nat.le_refl _)).kept (World.grownBy_alloc _ _ none) (Or.inr (by simp [Value.ownBlock]))
    · have := owns_empty (w := w.alloc (.cells #[] 3)) (base := w.heap.size) (e := 3) (f := remF T all ws) (by simp)
      simpa using this
    · exact ((Below.refl _ _).alloc (Nat.le_refl _) _).alloc (by simp) _
  case round =>
    obtain ⟨k, g7, c7, g8, c8, hk, rfl, rfl, rfl, rfl, r0, r1, hr⟩ := hrel
    have HR := Lib.hid hr
    have HB := Lib.hid hr.b
    clear hr
    by_cases hlt : k < n
    · have ck := (HB.out.cell (p := ⟨b, off + k, none⟩) hbl).trans (H.out.c k hlt)
      obtain ⟨p0, p1, q0, q1, m0, m1⟩ := quoF_bd T0 T1 a0 (HWS.out k hlt).1 (HWS.out k hlt).2
      change 0 ≤ T * ws k / all at q0
      change T * ws k / all ≤ _ at q1
      change 0 ≤ T * ws k % all at m0
      change T * ws k % all < _ at m1
      have hsz := HB.out.size
      have HRE : Hid (restF T all ws (k + 1) = restF T all ws k - T * ws k / all) := by
        show restF T all ws (k + 1) = restF T all ws k - T * ws k / all
        simp only [restF, sumF, quoF]; omega
      go_wp2_with (first | (at_builtin; refine wpList_append_lies _ rfl (.tmp 22) (.tmp 31) 22 rfl w.heap.size 3 i0 (.int .i64 0) 1 8 Try.underlying22 hi0 hz0 hz1 hz2 rfl (by decide) (.slice (some ⟨g7, 0, none⟩) k c7) k (intCells (quoF T all ws) k) rfl (HR.out.o7.kept (World.grownBy_alloc _ _ none) (Or.inr (by simp [Value.ownBlock]))) ⟨wr.heap.size, 0, none⟩ 1 1 [.int .i64 (T * ws k / all)] rfl rfl (news_one _ _ _) (by simp [Value.oneCell']) (by decide) (by unfold maxLen; omega) (by omega) (by simp; omega) (wr.heap.size + 1) (by simp) ?_; intro g7' c7' w1 hown1 hgrow1 hat1 hlt1; have HM := Lib.hid (mid_of HR.out hown1 hgrow1 hat1); have hsz1 := HM.out.b.size; have ck1 := (HM.out.b.cell (p := ⟨b, off + k, none⟩) hbl).trans (H.out.c k hlt); clear hown1 hgrow1 hat1 ck) | (at_builtin; refine wpList_append_lies _ rfl (.tmp 33) (.tmp 42) 22 rfl w.heap.size 3 i0 (.int .i64 0) 1 8 Try.underlying22 hi0 hz0 hz1 hz2 rfl (by decide) (.slice (some ⟨g8, 0, none⟩) k c8) k (intCells (remF T all ws) k) rfl (HM.out.o8.kept (World.grownBy_alloc _ _ none) (Or.inr (by simp [Value.ownBlock]))) ⟨w1.heap.size, 0, none⟩ 1 1 [.int .i64 (T * ws k % all)] rfl rfl (news_one _ _ _) (by simp [Value.oneCell']) (by decide) (by unfold maxLen; omega) (by omega) (by simp; omega) (w1.heap.size + 1) (by simp) ?_; intro g8' c8' w2 hown2 hgrow2 hat2 hlt2; have HREL := Lib.hid (rel_of HM.out hown2 hgrow2 hat2); have h7c := (ownI_of_owns HREL.out.o7).1.cell (i := k) (by omega); change w2.cell? _ = some (.int .i64 (T * ws k / all)) at h7c; clear hown2 hgrow2 hat2))
      go_roundw
      case rel => exact ⟨k + 1, g7', c7', g8', c8', by omega, by go_num, rfl, rfl, by rw [HRE.out], by rw [HRE.out]; omega, by rw [HRE.out]; omega, HREL.out⟩
      case measure => simp [intOf]; omega
    · have hkn : k = n := by omega
      subst hkn
      obtain ⟨own7, b7, l7, l7'⟩ := ownI_of_owns HR.out.o7
      obtain ⟨own8, b8, l8, l8'⟩ := ownI_of_owns HR.out.o8
      have HO7 := Lib.hid own7
      have HO8 := Lib.hid own8
      have hne := HR.out.ne
      clear own7 own8 HR
      have HQ := Lib.hid (fun i (hi : i < k) => quoF_bd (i := i) T0 T1 a0 (HWS.out i hi).1 (HWS.out i hi).2)
      obtain ⟨wz, rfl⟩ : ∃ wz : World, wz = wr := ⟨_, rfl⟩
      go_wp2_with fail
      go_loopw [9, 11, 12] (fun r s11 s12 w2 => ∃ q : Nat, r = .int .i64 (restF T all ws k - q) ∧ (q = 0 ∨ (q : Int) ≤ restF T all ws k) ∧
        OwnI w2 g7 k (outS k (quoF T all ws) (remF T all ws) q).1 ∧ OwnI w2 g8 k (outS k (quoF T all ws) (remF T all ws) q).2 ∧ Below w.heap.size w w2) (fun r _ _ _ => (intOf r).toNat)
      case atStart => exact ⟨0, by simp, Or.inl rfl, HO7.out, HO8.out, HB.out⟩
      case round =>
        obtain ⟨q, rfl, hq, ho7, ho8, hbel⟩ := hrel
        clear HB HO7 HO8
        have HB := Lib.hid hbel
        obtain ⟨bO, bL⟩ := outS_bd (n := k) (b := 1000000000000000000) (c := all) (out := quoF T all ws) (left := remF T all ws) (by omega) (by omega)
          (fun i hi => by have := HQ.out i hi; omega) (fun i hi => by have := HQ.out i hi; omega) q
        have hstep : outS k (quoF T all ws) (remF T all ws) (q + 1) = (setF (outS k (quoF T all ws) (remF T all ws) q).1 (argTo (outS k (quoF T all ws) (remF T all ws) q).2 k) ((outS k (quoF T all ws) (remF T all ws) q).1 (argTo (outS k (quoF T all ws) (remF T all ws) q).2 k) + 1), setF (outS k (quoF T all ws) (remF T all ws) q).2 (argTo (outS k (quoF T all ws) (remF T all ws) q).2 k) (-1)) := rfl
        have hdone : ∀ m : Nat, q = m → shareDone T all ws k m = (outS k (quoF T all ws) (remF T all ws) q).1 := fun m hm => by rw [← hm]; rfl
        generalize hS : outS k (quoF T all ws) (remF T all ws) q = S at *
        have HS := Lib.hid hS
        have HSTEP := Lib.hid hstep
        have HDONE := Lib.hid hdone
        have HO7 := Lib.hid ho7
        have HO8 := Lib.hid ho8
        have HBO := Lib.hid bO
        have HBL := Lib.hid bL
        clear hS hstep hdone ho7 ho8 bO bL hbel
        obtain ⟨wo, rfl⟩ : ∃ wo : World, wo = wr := ⟨_, rfl⟩
        by_cases hmore : (q : Int) < restF T all ws k
        · go_wp2_with fail
          go_loopw [11, 12] (fun s11 s12 w3 => ∃ i z : Nat, 1 ≤ i ∧ i ≤ k ∧ s12 = .int .i64 i ∧ s11 = .int .i64 (argTo S.2 i : Nat) ∧ w3 = wo.drewN z) (fun _ s12 _ => k - (intOf s12).toNat)
          case atStart => exact ⟨1, 0, Nat.le_refl _, hn, rfl, rfl, rfl⟩
          case round =>
            obtain ⟨i, z, hi1, hik, rfl, rfl, rfl⟩ := hrel
            have ha := argTo_lt S.2 i (by omega)
            by_cases hlt2 : i < k
            · have ci := HO8.out.cell hlt2
              have ca := HO8.out.cell (i := argTo S.2 i) (by omega)
              by_cases hgt : S.2 (argTo S.2 i) < S.2 i
              · have HE : Hid (argTo S.2 (i + 1) = i) := by show argTo S.2 (i + 1) = i; rw [argTo, if_neg (by omega), if_pos hgt]
                have x1 : (i : Int) < (k : Int) := by omega
                have x2 : ((argTo S.2 i : Nat) : Int) < (k : Int) := by omega
                go_wp2_with fail
                go_quiet (fail)
                go_wp2_with fail
                go_roundw
                case rel => exact ⟨i + 1, _, by omega, by omega, by go_num, by rw [HE.out], rfl⟩
                case measure => simp [intOf]; omega
              · have HE : Hid (argTo S.2 (i + 1) = argTo S.2 i) := by show argTo S.2 (i + 1) = argTo S.2 i; rw [argTo, if_neg (by omega), if_neg hgt]
                have x1 : (i : Int) < (k : Int) := by omega
                have x2 : ((argTo S.2 i : Nat) : Int) < (k : Int) := by omega
                go_wp2_with fail
                go_quiet (fail)
                go_wp2_with fail
                go_roundw
                case rel => exact ⟨i + 1, _, by omega, by omega, by go_num, by rw [HE.out], rfl⟩
                case measure => simp [intOf]; omega
            · have hik' : i = k := by omega
              subst hik'
              have c7a := HO7.out.cell (i := argTo S.2 i) (by omega)
              have c8a := HO8.out.cell (i := argTo S.2 i) (by omega)
              have f7a := HO7.out.frozen (argTo S.2 i)
              have f8a := HO8.out.frozen (argTo S.2 i)
              have hbd := HBO.out (argTo S.2 i) (by omega)
              go_wp2_with fail
              go_roundw
              case rel =>
                refine ⟨q + 1, by rw [Int.natCast_add]; congr 1; omega, Or.inr (by omega), ?_, ?_, ?_⟩
                · rw [HSTEP.out]; exact ((HO7.out.of_block (w' := wo.drewN z) rfl).set _ _).setOther hne _
                · rw [HSTEP.out]; exact ((HO8.out.of_block (w' := wo.drewN z) rfl).setOther (fun h => hne h.symm) _).set _ _
                · exact ((below_drewN HB.out z).setCell b7 _).setCell b8 _
              case measure => simp [intOf]; omega
        · have hqt : q = (restF T all ws k).toNat := by omega
          have HQT := Lib.hid (HDONE.out _ hqt)
          clear hqt
          go_wp2_with fail
          go_ret
          exact ⟨_, rfl, g7, c7, rfl, b7, l7, l7', by rw [HQT.out]; exact HO7.out, HB.out⟩

end My
end Go.Proofs.Ytmjemgelekceoaa
