/- The program's MoneyShare. -/
import Derived.Test.YtmjemgelekceoaaShareT
import Derived.Test.YtmjemgelekceoaaReg
import Derived.BigRegion
import Derived.RegionTactic
import Derived.Deep.CutRange
import Derived.Deep.RegionWith
namespace Go.Proofs.Ytmjemgelekceoaa
open Go.RowKit Go.Deep
set_option linter.unusedVariables false
namespace My

theorem run_makeI {P : Program} (t e : TypeId) (z : Value) (size bytes : Nat) (ht : P.underlying t = some (.slice e)) (hinfo : (P.info? e).map (fun i => (i.zero, i.size, i.bytes)) = some (some z, size, bytes))
    (n : Nat) (hb : bytes * n ≤ 281474976710656) (hn : n ≤ 9223372036854775807) (w : World) :
    (Instr.makeSlice t (.int .i64 (n : Int)) (.int .i64 (n : Int))).run P w = .ok (.slice (some ⟨w.heap.size, 0, none⟩) n n) (w.alloc (.cells (madeCells z.cells (n * size)) e)) := by
  obtain ⟨i, hi, h0, h1, h2⟩ := info_parts hinfo
  have hr := run_make (P := P) w t e i z ht hi h0 .i64 .i64 (n : Int) (n : Int) (by omega) (by omega) (by rw [h2]; omega) (by omega)
  simpa [h1] using hr
theorem own_made (w : World) (n : Nat) (t : TypeId) : OwnI (w.alloc (.cells (madeCells (Value.int .i64 0).cells (n * 1)) t)) w.heap.size n (fun _ => 0) := by
  refine ⟨t, _, blk_alloc_new _ _, fun i hi => ?_⟩
  simp [madeCells, hi, Value.cells, Nat.mod_one]

def mixF (f : Nat → Int) (k i : Nat) : Int := if i < k then f i else 0
theorem mixF_set {f : Nat → Int} {k : Nat} (i : Nat) : setF (mixF f k) k (f k) i = mixF f (k + 1) i := by
  simp only [setF, mixF]
  by_cases h : i = k
  · subst h; simp
  · rw [if_neg h]
    by_cases h2 : i < k
    · rw [if_pos h2, if_pos (by omega)]
    · rw [if_neg h2, if_neg (by omega)]

theorem two_made (w : World) (n : Nat) : OwnI ((w.alloc (.cells (madeCells #[.int .i64 0] n) 3)).alloc (.cells (madeCells #[.int .i64 0] n) 3)).drew w.heap.size n (fun _ => 0) ∧
    OwnI ((w.alloc (.cells (madeCells #[.int .i64 0] n) 3)).alloc (.cells (madeCells #[.int .i64 0] n) 3)).drew (w.heap.size + 1) n (fun _ => 0) ∧
    Below w.heap.size w ((w.alloc (.cells (madeCells #[.int .i64 0] n) 3)).alloc (.cells (madeCells #[.int .i64 0] n) 3)).drew := by
  have h1 := own_made w n 3
  rw [Nat.mul_one] at h1
  have h2 := own_made (w.alloc (.cells (madeCells #[.int .i64 0] n) 3)) n 3
  rw [Nat.mul_one] at h2
  have hb1 : Below w.heap.size w (w.alloc (.cells (madeCells #[.int .i64 0] n) 3)) := (Below.refl _ _).alloc (Nat.le_refl _) _
  have hb2 : Below (w.heap.size + 1) (w.alloc (.cells (madeCells #[.int .i64 0] n) 3)) ((w.alloc (.cells (madeCells #[.int .i64 0] n) 3)).alloc (.cells (madeCells #[.int .i64 0] n) 3)).drew := ((Below.refl _ _).alloc (by simp) _).drew
  refine ⟨h1.below hb2 (by simp), ?_, ((hb1.alloc (by simp) _).drew)⟩
  have e : (w.alloc (.cells (madeCells #[.int .i64 0] n) 3)).heap.size = w.heap.size + 1 := by simp
  rw [e] at h2
  exact h2.of_block rfl

/-- A slice of n ints, or none at all. -/
def SlResI (w : World) (n : Nat) (F : Nat → Int) (v : Value) (w' : World) : Prop := (n = 0 ∧ v = .slice none 0 0 ∧ Below w.heap.size w w') ∨ SlRes w n F v w'

theorem share_no1 {total : Int} {ws : Nat → Int} {n : Nat} (h : (List.range n).all (wB ws) = false) : mshN total ws n = 0 := by simp [mshN, shareG, h]
theorem share_no2 {total : Int} {ws : Nat → Int} {n : Nat} (h : mOk total = false) : mshN total ws n = 0 := by simp [mshN, shareG, h]
theorem share_no3 {total : Int} {ws : Nat → Int} {n : Nat} (h : 8 < n) : mshN total ws n = 0 := by
  have : ¬ n ≤ 8 := by omega
  simp [mshN, shareG, this]
theorem share_no4 {total : Int} {ws : Nat → Int} {n : Nat} (h : inB (sumF ws n) 1 1000000 = false) : mshN total ws n = 0 := by simp [mshN, shareG, h]

set_option maxHeartbeats 4000000 in
theorem iMoneyShare_any (total : Int) (b off n cap : Nat) (ws : Nat → Int) (w : World) (h : n = 0 ∨ IntsAt w b off n ws) (hn : n ≤ 1048576) (hc : n ≤ cap) :
    Calls Try.prog 10 #[.int .i64 total, .slice (some ⟨b, off, none⟩) n cap] w fun e w' => ∃ v, e = .returned v ∧ SlResI w (mshN total ws n) (mshF total ws n) v w' := by
  have hmk := run_makeI (P := Try.prog) 22 3 (.int .i64 0) 1 8 rfl infoInt n (by omega) (by omega)
  have H := Lib.hid h
  clear h
  go_enter Try.func10, Try.ntmps10
  go_wp2_with fail
  go_loop [5, 17] (fun s i => ∃ k : Nat, k ≤ n ∧ i = .int .i64 k ∧ s = .int .i64 (sumF ws k) ∧ 0 ≤ sumF ws k ∧ sumF ws k ≤ k * 1000000 ∧ (∀ j, j < k → wB ws j = true)) (fun _ i => n - (intOf i).toNat)
  case atStart => exact ⟨0, Nat.zero_le _, rfl, rfl, by simp [sumF], by simp [sumF], by omega⟩
  case round =>
    obtain ⟨k, hk, rfl, rfl, s0, s1, hal⟩ := hrel
    have HAL := Lib.hid hal
    clear hal
    by_cases hlt : k < n
    · have ck : w.cell? ⟨b, off + k, none⟩ = some (.int .i64 (ws k)) := by
        rcases H.out with h0 | h0
        · omega
        · exact h0.c k hlt
      cases hw : wB ws k
      · have hw' : inB (ws k) 0 1000000 = false := hw
        have HN : Hid (mshN total ws n = 0) := share_no1 (all_no hlt hw)
        clear hw
        go_wp2_with (go_at_call 22; ((with_reducible refine (in_any _ _ _ _).mono ?_); rintro e w' ⟨rfl, rfl⟩))
        go_ret
        exact ⟨_, rfl, by rw [HN.out]; exact Or.inl ⟨rfl, rfl, Below.refl _ _⟩⟩
      · have hw' : inB (ws k) 0 1000000 = true := hw
        have hwb := inB_true hw'
        have HW := Lib.hid hw
        have HS : Hid (sumF ws (k + 1) = sumF ws k + ws k) := rfl
        clear hw
        go_wp2_with (go_at_call 22; ((with_reducible refine (in_any _ _ _ _).mono ?_); rintro e w' ⟨rfl, rfl⟩))
        go_round
        case rel => exact ⟨k + 1, by omega, by go_num, by rw [HS.out], by rw [HS.out]; omega, by rw [HS.out]; omega, all_succ HAL.out HW.out⟩
        case measure => simp [intOf]; omega
    · have e : k = n := by omega
      subst e
      have HA := Lib.hid (all_yes HAL.out)
      cases hm : mOk total
      · have HN : Hid (mshN total ws k = 0) := share_no2 hm
        go_wp2_with (first | (go_at_call 23; ((with_reducible refine (iMoneyOk_any _ _).mono ?_); rintro e w' ⟨rfl, rfl⟩)) | (go_at_call 22; ((with_reducible refine (in_any _ _ _ _).mono ?_); rintro e w' ⟨rfl, rfl⟩)))
        go_ret
        exact ⟨_, rfl, by rw [HN.out]; exact Or.inl ⟨rfl, rfl, Below.refl _ _⟩⟩
      · by_cases h8 : 8 < k
        · have HN : Hid (mshN total ws k = 0) := share_no3 h8
          go_wp2_with (first | (go_at_call 23; ((with_reducible refine (iMoneyOk_any _ _).mono ?_); rintro e w' ⟨rfl, rfl⟩)) | (go_at_call 22; ((with_reducible refine (in_any _ _ _ _).mono ?_); rintro e w' ⟨rfl, rfl⟩)))
          go_ret
          exact ⟨_, rfl, by rw [HN.out]; exact Or.inl ⟨rfl, rfl, Below.refl _ _⟩⟩
        · cases hs : inB (sumF ws k) 1 1000000
          · have HN : Hid (mshN total ws k = 0) := share_no4 hs
            go_wp2_with (first | (go_at_call 23; ((with_reducible refine (iMoneyOk_any _ _).mono ?_); rintro e w' ⟨rfl, rfl⟩)) | (go_at_call 22; ((with_reducible refine (in_any _ _ _ _).mono ?_); rintro e w' ⟨rfl, rfl⟩)))
            go_ret
            exact ⟨_, rfl, by rw [HN.out]; exact Or.inl ⟨rfl, rfl, Below.refl _ _⟩⟩
          · go_upto_region 11 with (first | (go_at_call 23; ((with_reducible refine (iMoneyOk_any _ _).mono ?_); rintro e w' ⟨rfl, rfl⟩)) | (go_at_call 22; ((with_reducible refine (in_any _ _ _ _).mono ?_); rintro e w' ⟨rfl, rfl⟩)))
            go_cut [8, 9] from 18 to 46 (fun s8 s9 wx => ∃ g8 g9, s8 = .slice (some ⟨g8, 0, none⟩) k k ∧ s9 = .slice (some ⟨g9, 0, none⟩) k k ∧ g8 ≠ g9 ∧ w.heap.size ≤ g8 ∧ w.heap.size ≤ g9 ∧ OwnI wx g8 k (fun _ => 0) ∧ OwnI wx g9 k (fun _ => 0) ∧ Below w.heap.size w wx)
            case first =>
              go_region
              · go_wp2_with fail
                go_meet
                exact ⟨_, _, rfl, rfl, by omega, by omega, by omega, (two_made w k).1, (two_made w k).2.1, (two_made w k).2.2⟩
              · go_wp2_with fail
                go_meet
                exact ⟨_, _, rfl, rfl, by omega, by omega, by omega, (two_made w k).2.1, (two_made w k).1, (two_made w k).2.2⟩
            case rest =>
              obtain ⟨g8, g9, rfl, rfl, hne, hg8, hg9, ho8, ho9, hb⟩ := hcut
              obtain ⟨a0, a1⟩ := inB_true hs
              obtain ⟨m0, m1⟩ := inB_true (show inB total (-1000000000000) 1000000000000 = true from hm)
              have HO8 := Lib.hid ho8
              have HO9 := Lib.hid ho9
              have HB := Lib.hid hb
              clear ho8 ho9 hb
              have HW := Lib.hid (wB_all HA.out)
              have hk1 : 1 ≤ k := by
                cases k with
                | zero => simp [sumF] at a0
                | succ k => omega
              have hT : 0 ≤ absI total ∧ absI total ≤ 1000000000000 := by simp only [absI]; split <;> omega
              have HT : Hid (∀ T, T = absI total → mshF total ws k = signF total (shareDone T (sumF ws k) ws k (restF T (sumF ws k) ws k).toNat) ∧ mshN total ws k = k) := by
                show ∀ T, _
                intro T hTe
                have hg : shareG total ws k = true := by
                  have : k ≤ 8 := by omega
                  simp [shareG, HA.out, hm, hs, this]
                exact ⟨by rw [hTe]; rfl, by simp [mshN, hg]⟩
              obtain ⟨T, hTT⟩ : ∃ T, T = absI total := ⟨_, rfl⟩
              have HTT := Lib.hid hTT
              rw [← hTT] at hT
              obtain ⟨all, hall⟩ : ∃ all, all = sumF ws k := ⟨_, rfl⟩
              have HALL := Lib.hid hall
              rw [← hall] at a0 a1
              clear hTT
              rw [← hall]
              have hsize : ∀ w, Calls Try.prog 24 #[.int .i64 total] w fun e w' => e = .returned (.int .i64 T) ∧ w = w' := fun w => by
                rw [HTT.out]; exact size_any _ _ (by omega) (by omega)
              have HSZ := Lib.hid hsize
              have htf := HT.out T HTT.out
              rw [← hall] at htf
              have HTF := Lib.hid htf
              have HRB := Lib.hid (rest_bd (T := T) (n := k) hall.symm (by omega) (fun i hi => by have h := quoF_bd (i := i) hT.1 hT.2 a0 (HW.out i hi).1 (HW.out i hi).2; exact ⟨h.2.2.2.2.1, h.2.2.2.2.2⟩) hk1)
              clear hall hsize HT htf
              go_wp2_with (go_at_call 24; ((with_reducible refine (HSZ.out _).mono ?_); rintro e w' ⟨rfl, rfl⟩))
              go_loopw [10, 51] (fun l i wr => ∃ j : Nat, j ≤ k ∧ i = .int .i64 j ∧ l = .int .i64 (restF T all ws j) ∧ -(j * 1000000000000000000) ≤ restF T all ws j ∧ restF T all ws j ≤ 1000000000000 ∧
                OwnI wr g8 k (mixF (quoF T all ws) j) ∧ OwnI wr g9 k (mixF (remF T all ws) j) ∧ Below w.heap.size w wr) (fun _ i _ => k - (intOf i).toNat)
              case atStart => exact ⟨0, Nat.zero_le _, rfl, by simp [restF, sumF], by simp [restF, sumF]; omega, by simp [restF, sumF]; omega, HO8.out.congr (fun i _ => rfl), HO9.out.congr (fun i _ => rfl), HB.out⟩
              case round =>
                obtain ⟨j, hj, rfl, rfl, r0, r1, ho8, ho9, hb⟩ := hrel
                clear HO8 HO9 HB
                have HO8 := Lib.hid ho8
                have HO9 := Lib.hid ho9
                have HB := Lib.hid hb
                clear ho8 ho9 hb
                obtain ⟨wo, rfl⟩ : ∃ wo : World, wo = wr := ⟨_, rfl⟩
                by_cases hlt : j < k
                · have ck : wo.cell? ⟨b, off + j, none⟩ = some (.int .i64 (ws j)) := by
                    rcases H.out with h0 | h0
                    · omega
                    · exact (HB.out.cell (p := ⟨b, off + j, none⟩) h0.lt).trans (h0.c j hlt)
                  have f8 := HO8.out.frozen j
                  have f9 := HO9.out.frozen j
                  have c8 := HO8.out.cell hlt
                  have c9 := HO9.out.cell hlt
                  obtain ⟨p0, p1, q0, q1, m0, m1⟩ := quoF_bd hT.1 hT.2 a0 (HW.out j hlt).1 (HW.out j hlt).2
                  change 0 ≤ T * ws j / all at q0
                  change T * ws j / all ≤ _ at q1
                  change 0 ≤ T * ws j % all at m0
                  change T * ws j % all < _ at m1
                  have hc8 : OwnI ((wo.setCell ⟨g8, j, none⟩ (.int .i64 (T * ws j / all))).setCell ⟨g9, j, none⟩ (.int .i64 (T * ws j % all))).drew g8 k (mixF (quoF T all ws) (j + 1)) ∧
                      OwnI ((wo.setCell ⟨g8, j, none⟩ (.int .i64 (T * ws j / all))).setCell ⟨g9, j, none⟩ (.int .i64 (T * ws j % all))).drew g9 k (mixF (remF T all ws) (j + 1)) ∧
                      Below w.heap.size w ((wo.setCell ⟨g8, j, none⟩ (.int .i64 (T * ws j / all))).setCell ⟨g9, j, none⟩ (.int .i64 (T * ws j % all))).drew :=
                    ⟨(((HO8.out.set j (T * ws j / all)).congr (fun i _ => mixF_set i)).setOther hne _).of_block rfl, (((HO9.out.setOther (a := ⟨g8, j, none⟩) (fun h => hne h.symm) _).set j (T * ws j % all)).congr (fun i _ => mixF_set i)).of_block rfl, ((HB.out.setCell hg8 _).setCell hg9 _).drew⟩
                  have HC8 := Lib.hid hc8
                  have e1 : IntKind.i64.wrap (T * ws j) = T * ws j := IntWalk.i64_in _ (by omega)
                  have e2 : (T * ws j).tdiv all = T * ws j / all := Int.tdiv_eq_ediv_of_nonneg p0
                  have e3 : (T * ws j).tmod all = T * ws j % all := Int.tmod_eq_emod_of_nonneg p0
                  have e4 : IntKind.i64.wrap (T * ws j / all) = T * ws j / all := IntWalk.i64_in _ (by omega)
                  have e5 : IntKind.i64.wrap (T * ws j % all) = T * ws j % all := IntWalk.i64_in _ (by omega)
                  have e6 : ¬ all = 0 := by omega
                  clear hc8
                  go_upto_region 16 with fail
                  go_cut [] from 56 to 73 (fun wx => OwnI wx g8 k (mixF (quoF T all ws) (j + 1)) ∧ OwnI wx g9 k (mixF (remF T all ws) (j + 1)) ∧ Below w.heap.size w wx)
                  case first =>
                    go_region_with (go_at_call 24; ((with_reducible refine (HSZ.out _).mono ?_); rintro e w' ⟨rfl, rfl⟩))
                    all_goals
                      go_wp2_with fail
                      go_meet
                      exact HC8.out
                  case rest =>
                    obtain ⟨hr8, hr9, hrb⟩ := hcut
                    clear c8 c9
                    have c8 := hr8.cell hlt
                    have hx : mixF (quoF T all ws) (j + 1) j = T * ws j / all := by simp [mixF, quoF]
                    rw [hx] at c8
                    have HR8 := Lib.hid hr8
                    have HR9 := Lib.hid hr9
                    have HRB := Lib.hid hrb
                    have HRE : Hid (restF T all ws (j + 1) = restF T all ws j - T * ws j / all) := by
                      show restF T all ws (j + 1) = restF T all ws j - T * ws j / all
                      simp only [restF, sumF, quoF]; omega
                    clear hr8 hr9 hrb hx e1 e2 e3 e4 e5 HC8
                    go_wp2_with fail
                    go_roundw
                    case rel => exact ⟨j + 1, hlt, by go_num, by rw [HRE.out], by rw [HRE.out]; omega, by rw [HRE.out]; omega, HR8.out, HR9.out, HRB.out⟩
                    case measure => simp [intOf]; omega
                · have hjk : j = k := by omega
                  subst hjk
                  have hrb := HRB.out
                  have HQ := Lib.hid (fun i (hi : i < j) => quoF_bd (i := i) hT.1 hT.2 a0 (HW.out i hi).1 (HW.out i hi).2)
                  go_wp2_with fail
                  go_loopw [82] (fun i w2 => ∃ q : Nat, i = .int .i64 q ∧ (q : Int) ≤ restF T all ws j ∧
                    OwnI w2 g8 j (outS j (quoF T all ws) (remF T all ws) q).1 ∧ OwnI w2 g9 j (outS j (quoF T all ws) (remF T all ws) q).2 ∧ Below w.heap.size w w2) (fun i _ => (restF T all ws j).toNat - (intOf i).toNat)
                  case atStart => exact ⟨0, rfl, by omega, HO8.out.congr (fun i hi => by simp only [mixF, outS]; rw [if_pos hi]), HO9.out.congr (fun i hi => by simp only [mixF, outS]; rw [if_pos hi]), HB.out⟩
                  case round =>
                    obtain ⟨q, rfl, hq, ho8, ho9, hb⟩ := hrel
                    clear HO8 HO9 HB
                    obtain ⟨bO, bL⟩ := outS_bd (n := j) (b := 1000000000000000000) (c := all) (out := quoF T all ws) (left := remF T all ws) (by omega) (by omega)
                      (fun i hi => by have := HQ.out i hi; omega) (fun i hi => by have := HQ.out i hi; omega) q
                    have hstep : outS j (quoF T all ws) (remF T all ws) (q + 1) = (setF (outS j (quoF T all ws) (remF T all ws) q).1 (argTo (outS j (quoF T all ws) (remF T all ws) q).2 j) ((outS j (quoF T all ws) (remF T all ws) q).1 (argTo (outS j (quoF T all ws) (remF T all ws) q).2 j) + 1), setF (outS j (quoF T all ws) (remF T all ws) q).2 (argTo (outS j (quoF T all ws) (remF T all ws) q).2 j) (-1)) := rfl
                    have hdone : ∀ m : Nat, q = m → shareDone T all ws j m = (outS j (quoF T all ws) (remF T all ws) q).1 := fun m hm => by rw [← hm]; rfl
                    generalize hS : outS j (quoF T all ws) (remF T all ws) q = S at *
                    have HS := Lib.hid hS
                    have HSTEP := Lib.hid hstep
                    have HDONE := Lib.hid hdone
                    have HO8 := Lib.hid ho8
                    have HO9 := Lib.hid ho9
                    have HB := Lib.hid hb
                    have ha := argTo_lt S.2 j (by omega)
                    have hbd := bO (argTo S.2 j) ha
                    clear hS hstep hdone ho8 ho9 bO bL hb
                    obtain ⟨w1, rfl⟩ : ∃ w1 : World, w1 = wr := ⟨_, rfl⟩
                    by_cases hmore : (q : Int) < restF T all ws j
                    · have c8a := HO8.out.cell (i := argTo S.2 j) (by omega)
                      have c9a := HO9.out.cell (i := argTo S.2 j) (by omega)
                      have f8a := HO8.out.frozen (argTo S.2 j)
                      have f9a := HO9.out.frozen (argTo S.2 j)
                      go_wp2_with (first | (go_at_call 26; ((with_reducible refine (Max_any g9 0 j j S.2 _ HO9.out.ints hk1 (by omega) (Nat.le_refl _)).mono ?_); rintro e w' ⟨rfl, rfl⟩)) | (go_at_call 25; ((with_reducible refine (Index_any g9 0 j j S.2 _ HO9.out.ints hk1 (by omega) (Nat.le_refl _)).mono ?_); rintro e w' ⟨rfl, rfl⟩)))
                      go_roundw
                      case rel =>
                        refine ⟨q + 1, by go_num, by omega, ?_, ?_, ?_⟩
                        · rw [HSTEP.out]; exact (HO8.out.set _ _).setOther hne _
                        · rw [HSTEP.out]; exact (HO9.out.setOther (fun h => hne h.symm) _).set _ _
                        · exact (HB.out.setCell hg8 _).setCell hg9 _
                      case measure => simp [intOf]; omega
                    · have hqt : q = (restF T all ws j).toNat := by omega
                      have ho8 := HO8.out
                      rw [← HDONE.out _ hqt] at ho8
                      clear HO8 HO9 hqt
                      obtain ⟨FF, hFF⟩ : ∃ FF, FF = shareDone T all ws j (restF T all ws j).toNat := ⟨_, rfl⟩
                      rw [← hFF] at ho8
                      have hbd : ∀ i, i < j → 0 ≤ FF i ∧ FF i ≤ 1000000000000000008 := fun i hi => by
                        have h := (outS_bd (n := j) (b := 1000000000000000000) (c := all) (out := quoF T all ws) (left := remF T all ws) (by omega) (by omega)
                          (fun i hi => by have := HQ.out i hi; omega) (fun i hi => by have := HQ.out i hi; omega) (restF T all ws j).toNat).1 i hi
                        rw [hFF]; simp only [shareDone]; omega
                      have htf := HTF.out.1
                      rw [← hFF] at htf
                      have HTF2 := Lib.hid htf
                      have HTN := Lib.hid HTF.out.2
                      have HO8 := Lib.hid ho8
                      have HBD := Lib.hid hbd
                      clear hFF htf ho8 hbd
                      by_cases hneg : total < 0
                      · go_wp2_with fail
                        go_loopw [102] (fun i wr => ∃ k : Nat, k ≤ j ∧ i = .int .i64 k ∧ OwnI wr g8 j (negF FF k) ∧ Below w.heap.size w wr) (fun i _ => j - (intOf i).toNat)
                        case atStart => exact ⟨0, Nat.zero_le _, rfl, HO8.out.congr (fun i _ => rfl), HB.out⟩
                        case round =>
                          obtain ⟨k, hk, rfl, ho, hb⟩ := hrel
                          clear HO8 HB
                          have HO := Lib.hid ho
                          have HB := Lib.hid hb
                          clear ho hb
                          by_cases hlt : k < j
                          · have ck := HO.out.cell hlt
                            rw [negF_at] at ck
                            have fk := HO.out.frozen k
                            have hkb := HBD.out k hlt
                            go_wp2_with fail
                            go_roundw
                            case rel => exact ⟨k + 1, hlt, by go_num, (HO.out.set k _).congr (fun i _ => negF_set i), HB.out.setCell hg8 _⟩
                            case measure => simp [intOf]; omega
                          · have hkn : k = j := by omega
                            go_wp2_with fail
                            go_ret
                            refine ⟨_, rfl, ?_⟩
                            rw [HTN.out, HTF2.out]
                            exact Or.inr ⟨g8, j, rfl, hg8, Nat.le_refl _, by unfold maxLen; omega, HO.out.congr (fun i hi => by simp only [negF, signF]; rw [if_pos (by omega), if_pos hneg]), HB.out⟩
                      · go_wp2_with fail
                        go_ret
                        refine ⟨_, rfl, ?_⟩
                        rw [HTN.out, HTF2.out]
                        exact Or.inr ⟨g8, j, rfl, hg8, Nat.le_refl _, by unfold maxLen; omega, HO8.out.congr (fun i hi => by simp only [signF]; rw [if_neg (by omega)]), HB.out⟩

end My
end Go.Proofs.Ytmjemgelekceoaa
