/- TripWrite, as both have it. -/
import Derived.Test.YtjmlekhgnbbjoaaGreatDoorWireX
import Derived.Test.YtjmlekhgnbbjoaaGreatDoorShelfB
import Derived.Deep.RegionWith
namespace Go.Proofs.YtjmlekhgnbbjoaaGreatDoor
open Go.RowKit Go.Deep
set_option linter.unusedVariables false
namespace My

theorem bD' {B : Nat} {w w1 : World} (h : Below B w w1) (z : Nat) : Below B w (w1.drewN z) := below_drewN h z
def nmS (x : ByteArray) : Bool := nameB x.data.toList
def legB (F : Nat → ByteArray) (k : Nat) : Bool := nmS (F k) && decide (∀ j, j < k → F j ≠ F k)
def legsB (F : Nat → ByteArray) (n : Nat) : Bool := decide (∀ k, k < n → legB F k = true)
def tripB (F : Nat → ByteArray) (n : Nat) (f : ByteArray) (s : Int) : Bool := legsB F n && inB n 1 3 && nmS f && inB s 1 4
theorem legB_no {F : Nat → ByteArray} {k n : Nat} (hk : k < n) (h : legB F k = false) : legsB F n = false := by
  simp only [legsB, decide_eq_false_iff_not]
  intro c
  rw [c k hk] at h
  cases h
theorem legB_nm {F : Nat → ByteArray} {k : Nat} (h : nmS (F k) = false) : legB F k = false := by simp [legB, h]
theorem legB_dup {F : Nat → ByteArray} {j k : Nat} (hj : j < k) (h : F j = F k) : legB F k = false := by
  simp only [legB, Bool.and_eq_false_iff, decide_eq_false_iff_not]
  exact Or.inr (fun c => c j hj h)
theorem legB_yes {F : Nat → ByteArray} {k : Nat} (h : nmS (F k) = true) (h' : ∀ j, j < k → F j ≠ F k) : legB F k = true := by
  simp only [legB, h, Bool.true_and, decide_eq_true_eq]
  exact h'
theorem legsB_yes {F : Nat → ByteArray} {n : Nat} (h : ∀ k, k < n → legB F k = true) : legsB F n = true := by simpa [legsB] using h
theorem tripB_no1 {F : Nat → ByteArray} {n : Nat} {f : ByteArray} {s : Int} (h : legsB F n = false) : tripB F n f s = false := by simp [tripB, h]
theorem nmS_size {x : ByteArray} (h : nmS x = true) : 1 ≤ x.size ∧ x.size ≤ 8 := by
  simp only [nmS, nameB, Bool.and_eq_true] at h
  have := inB_true h.2
  have e : x.data.toList.length = x.size := Array.length_toList
  omega
theorem trip_parts {F : Nat → ByteArray} {n : Nat} {f : ByteArray} {s : Int} (h : tripB F n f s = true) :
    (∀ k, k < n → nmS (F k) = true) ∧ legsB F n = true ∧ (1 ≤ n ∧ n ≤ 3) ∧ nmS f = true ∧ (1 ≤ s ∧ s ≤ 4) := by
  simp only [tripB, Bool.and_eq_true] at h
  obtain ⟨⟨⟨h1, h2⟩, h3⟩, h4⟩ := h
  have h2' := inB_true h2
  refine ⟨fun k hk => ?_, h1, by omega, h3, inB_true h4⟩
  simp only [legsB, decide_eq_true_eq] at h1
  have := h1 k hk
  simp only [legB, Bool.and_eq_true] at this
  exact this.1

/-- The trip's value. -/
def tripV (a : Option Addr) (n c : Nat) (f : ByteArray) (s : Int) : Value := .agg #[.slice a n c, .string f, .int .i64 s]
theorem boxed {w : World} {u v x : Value} {t : TypeId} : (w.alloc (.cells #[u, v, x] t)).cell? ⟨w.heap.size, 0, none⟩ = some u ∧ (w.alloc (.cells #[u, v, x] t)).cell? ⟨w.heap.size, 1, none⟩ = some v ∧ (w.alloc (.cells #[u, v, x] t)).cell? ⟨w.heap.size, 2, none⟩ = some x := by
  have hb := blk_alloc_new w (.cells #[u, v, x] t)
  exact ⟨by simp only [World.cell?, hb]; rfl, by simp only [World.cell?, hb]; rfl, by simp only [World.cell?, hb]; rfl⟩

set_option maxRecDepth 100000 in
set_option maxHeartbeats 2000000 in
theorem l8Form_any (a : Option Addr) (n c : Nat) (f : ByteArray) (s : Int) (F : Nat → ByteArray) (w : World) (h : InS w a n F) (hn : n ≤ 1048576) (hc : n ≤ c) (hF : ∀ i, i < n → (F i).size ≤ 1048576) (hf : f.size ≤ 1048576) :
    Calls Tryz.prog 23 #[.agg #[.slice a n c, .string f, .int .i64 s]] w fun e w' => e = .returned (.bool (tripB F n f s)) ∧ Below w.heap.size w w' := by
  have HF := Lib.hid hF
  obtain ⟨c0, c1, c2⟩ := boxed (w := w) (u := .slice a n c) (v := .string f) (x := .int .i64 s) (t := 26)
  have hb0 := (Below.refl w.heap.size w).alloc (Nat.le_refl _) (.cells #[.slice a n c, .string f, .int .i64 s] 26)
  have HK := Lib.hid (h.below hb0 (Nat.le_refl _))
  have HB := Lib.hid hb0
  have hff : f.size ≤ maxLen := by unfold maxLen; omega
  have HFF := Lib.hid hff
  obtain ⟨w0, hw0⟩ : ∃ w0, w0 = w.alloc (.cells #[.slice a n c, .string f, .int .i64 s] 26) := ⟨_, rfl⟩
  obtain ⟨tb, htb⟩ : ∃ tb, tb = w.heap.size := ⟨_, rfl⟩
  rw [← hw0] at HK HB c0 c1 c2
  rw [← htb] at c0 c1 c2
  clear h hF hb0 hff
  go_enter Tryz.func23, Tryz.ntmps23
  go_wp2_with fail
  rw [← hw0, ← htb]
  clear hw0 htb
  go_loopw [3] (fun i w' => ∃ k z : Nat, k ≤ n ∧ i = .int .i64 k ∧ (∀ j, j < k → legB F j = true) ∧ w' = w0.drewN z) (fun i _ => n - (intOf i).toNat)
  case atStart => exact ⟨0, 0, Nat.zero_le _, rfl, by omega, rfl⟩
  case round =>
    obtain ⟨k, z, hk, rfl, hal, rfl⟩ := hrel
    have HAL := Lib.hid hal
    clear hal
    by_cases hlt : k < n
    · obtain ⟨b, off, rfl, hi⟩ : ∃ b off, a = some ⟨b, off, none⟩ ∧ StrsAt w0 b off n F := by
        rcases HK.out with h0 | h0
        · omega
        · exact h0
      have cf := hi.c k hlt
      have HI := Lib.hid hi
      clear hi
      have HFK := Lib.hid (show (F k).size ≤ maxLen by unfold maxLen; have := HF.out k hlt; omega)
      have HNM := Lib.hid (fun w' => (show Calls Tryz.prog 42 #[.string (F k)] w' fun e w'' => e = .returned (.bool (nmS (F k))) ∧ w' = w'' from sNameOk_any (F k) w' HFK.out))
      cases hnm : nmS (F k)
      · have HN := Lib.hid (tripB_no1 (f := f) (s := s) (legB_no hlt (legB_nm hnm)))
        go_wp2_with (go_at_call 42; ((with_reducible refine (HNM.out _).mono ?_); rintro e w' ⟨rfl, rfl⟩))
        go_ret
        exact ⟨ret_bool HN.out.symm, bD' HB.out z⟩
      · have HNT := Lib.hid hnm
        go_wp2_with (go_at_call 42; ((with_reducible refine (HNM.out _).mono ?_); rintro e w' ⟨rfl, rfl⟩))
        clear hnm
        go_loopw [4] (fun i w' => ∃ j z : Nat, j ≤ k ∧ i = .int .i64 j ∧ (∀ i, i < j → F i ≠ F k) ∧ w' = w0.drewN z) (fun i _ => k - (intOf i).toNat)
        case atStart => exact ⟨0, z, Nat.zero_le _, rfl, by omega, rfl⟩
        case round =>
          obtain ⟨j, z, hj, rfl, hall, rfl⟩ := hrel
          have HALL := Lib.hid hall
          clear hall
          by_cases hjk : j < k
          · have cj := HI.out.c j (by omega)
            have x1 : (j : Int) < (n : Int) := by omega
            have x2 : (k : Int) < (n : Int) := by omega
            by_cases he : F j = F k
            · have heb : ((F j).toList == (F k).toList) = true := by rw [he]; simp
              have HN := Lib.hid (tripB_no1 (f := f) (s := s) (legB_no hlt (legB_dup hjk he)))
              clear he
              go_wp2_with fail
              go_quiet (fail)
              go_wp2_with fail
              go_ret
              exact ⟨ret_bool HN.out.symm, bD' (bD' HB.out _) _⟩
            · have heb : ((F j).toList == (F k).toList) = false := (Lib.bytes_beq_false_iff _ _).2 he
              have HE := Lib.hid he
              clear he
              go_wp2_with fail
              go_quiet (fail)
              go_wp2_with fail
              go_roundw
              case rel => exact ⟨j + 1, _, by omega, by go_num, fun i hi => by
                by_cases e : i = j
                · rw [e]; exact HE.out
                · exact HALL.out i (by omega), rfl⟩
              case measure => simp [intOf]; omega
          · have e : j = k := by omega
            subst e
            have HL := Lib.hid (legB_yes HNT.out HALL.out)
            go_wp2_with fail
            go_roundw
            case rel => exact ⟨j + 1, _, by omega, by go_num, fun i hi => by
              by_cases e : i = j
              · rw [e]; exact HL.out
              · exact HAL.out i (by omega), rfl⟩
            case measure => simp [intOf]; omega
    · have e : k = n := by omega
      subst e
      have HLS := Lib.hid (legsB_yes HAL.out)
      have HNM := Lib.hid (fun w' => (show Calls Tryz.prog 42 #[.string f] w' fun e w'' => e = .returned (.bool (nmS f)) ∧ w' = w'' from sNameOk_any f w' HFF.out))
      have HT : Hid (tripB F k f s = (inB k 1 3 && nmS f && inB s 1 4)) := by show tripB F k f s = _; simp [tripB, HLS.out]
      cases h1 : inB k 1 3 <;> cases h2 : nmS f <;> cases h3 : inB s 1 4
      all_goals
        go_wp2_with (first | (go_at_call 31; ((with_reducible refine (l1In_any _ _ _ _).mono ?_); rintro e w' ⟨rfl, rfl⟩)) | (go_at_call 42; ((with_reducible refine (HNM.out _).mono ?_); rintro e w' ⟨rfl, rfl⟩)))
        go_ret
        exact ⟨ret_bool (by rw [HT.out, h1, h2, h3]; rfl), bD' HB.out z⟩

theorem contains_eq (F : Nat → ByteArray) (n k : Nat) (hk : k ≤ n) : Lib.containsS (((List.range n).map F).take k) (F k) = !decide (∀ j, j < k → F j ≠ F k) := by
  rw [Bool.eq_iff_iff, Lib.containsS_iff]
  simp only [Bool.not_eq_true', decide_eq_false_iff_not]
  constructor
  · intro h c
    rw [List.mem_iff_getElem?] at h
    obtain ⟨j, hj⟩ := h
    rcases Nat.lt_or_ge j k with e | e
    · rw [List.getElem?_take_of_lt e] at hj
      have hjn : j < n := by omega
      simp [hjn] at hj
      exact c j e hj
    · rw [List.getElem?_eq_none (by simp; omega)] at hj
      cases hj
  · intro h
    by_cases c : F k ∈ ((List.range n).map F).take k
    · exact c
    · exfalso
      apply h
      intro j hj e
      apply c
      rw [List.mem_iff_getElem?]
      refine ⟨j, ?_⟩
      rw [List.getElem?_take_of_lt hj]
      have hjn : j < n := by omega
      simp [hjn, e]

set_option maxRecDepth 100000 in
set_option maxHeartbeats 1000000 in
theorem unlikeNames_any (a : Option Addr) (n c : Nat) (F : Nat → ByteArray) (w : World) (h : InS w a n F) (hn : n ≤ 1048576) (hc : n ≤ c) (hc1 : c ≤ 9223372036854775807) (hF : ∀ i, i < n → (F i).size ≤ 1048576) :
    Calls Tryz.prog 33 #[.slice a n c] w fun e w' => e = .returned (.bool (legsB F n)) ∧ w = w' := by
  have HF := Lib.hid hF
  have HK := Lib.hid h
  clear h hF
  go_enter Tryz.func33, Tryz.ntmps33
  go_wp2_with fail
  go_loop [7] (fun i => ∃ k : Nat, k ≤ n ∧ i = .int .i64 k ∧ (∀ j, j < k → legB F j = true)) (fun i => n - (intOf i).toNat)
  case atStart => exact ⟨0, Nat.zero_le _, rfl, by omega⟩
  case round =>
    obtain ⟨k, hk, rfl, hal⟩ := hrel
    have HAL := Lib.hid hal
    clear hal
    by_cases hlt : k < n
    · obtain ⟨b, off, rfl, hi⟩ : ∃ b off, a = some ⟨b, off, none⟩ ∧ StrsAt w b off n F := by
        rcases HK.out with h0 | h0
        · omega
        · exact h0
      have cf := hi.c k hlt
      have HI := Lib.hid hi
      have HFK := Lib.hid (show (F k).size ≤ maxLen by unfold maxLen; have := HF.out k hlt; omega)
      have HNM := Lib.hid (fun w' => (show Calls Tryz.prog 34 #[.string (F k)] w' fun e w'' => e = .returned (.bool (nmS (F k))) ∧ w' = w'' from iNameOk_any (F k) w' HFK.out))
      have HCO := Lib.hid (show Calls Tryz.prog 49 #[.slice (some ⟨b, off, none⟩) k c, .string (F k)] w fun e w' => e = .returned (.bool (!decide (∀ j, j < k → F j ≠ F k))) ∧ w = w' from by
        refine (Tryz.slices_Contains_string b off k c ((List.range n).map F) (F k) w (by simp; omega) (by omega) (fun j hj => by
          have hjn : j < n := by simpa using hj
          rw [hi.c j hjn]
          simp [hjn])).mono ?_
        rintro e w' ⟨rfl, rfl⟩
        exact ⟨by rw [contains_eq F n k hk], rfl⟩)
      clear hi
      have x1 : (k : Int) ≤ (c : Int) := by omega
      cases hnm : nmS (F k)
      · have HN := Lib.hid (legB_no hlt (legB_nm hnm))
        go_wp2_with (go_at_call 34; ((with_reducible refine (HNM.out _).mono ?_); rintro e w' ⟨rfl, rfl⟩))
        go_ret
        exact ⟨ret_bool HN.out.symm, rfl⟩
      · have HNT := Lib.hid hnm
        cases hd : decide (∀ j, j < k → F j ≠ F k)
        · have HN := Lib.hid (legB_no hlt (show legB F k = false by simp only [legB, hd, Bool.and_false]))
          rw [hd] at HCO
          clear hd
          go_wp2_with (first | (go_at_call 34; ((with_reducible refine (HNM.out _).mono ?_); rintro e w' ⟨rfl, rfl⟩)) | (go_at_call 49; ((with_reducible refine (HCO.out).mono ?_); rintro e w' ⟨rfl, rfl⟩)))
          go_ret
          exact ⟨ret_bool HN.out.symm, rfl⟩
        · have HL := Lib.hid (show legB F k = true by simp only [legB, hd, hnm, Bool.and_true])
          rw [hd] at HCO
          clear hd
          go_wp2_with (first | (go_at_call 34; ((with_reducible refine (HNM.out _).mono ?_); rintro e w' ⟨rfl, rfl⟩)) | (go_at_call 49; ((with_reducible refine (HCO.out).mono ?_); rintro e w' ⟨rfl, rfl⟩)))
          go_round
          case rel => exact ⟨k + 1, by omega, by go_num, all_succ HAL.out HL.out⟩
          case measure => simp [intOf]; omega
    · have e : k = n := by omega
      subst e
      have HLS := Lib.hid (legsB_yes HAL.out)
      go_wp2_with fail
      go_ret
      exact ⟨ret_bool HLS.out.symm, rfl⟩

set_option maxRecDepth 100000 in
set_option maxHeartbeats 1000000 in
theorem formed_any (a : Option Addr) (n c : Nat) (f : ByteArray) (s : Int) (F : Nat → ByteArray) (w : World) (h : InS w a n F) (hn : n ≤ 1048576) (hc : n ≤ c) (hc1 : c ≤ 9223372036854775807) (hF : ∀ i, i < n → (F i).size ≤ 1048576) (hf : f.size ≤ 1048576) :
    Calls Tryz.prog 19 #[.agg #[.slice a n c, .string f, .int .i64 s]] w fun e w' => e = .returned (.bool (tripB F n f s)) ∧ Below w.heap.size w w' := by
  have hb0 := (Below.refl w.heap.size w).alloc (Nat.le_refl _) (.cells #[.slice a n c, .string f, .int .i64 s] 26)
  have HB := Lib.hid hb0
  have HUN := Lib.hid (unlikeNames_any a n c F _ (h.below hb0 (Nat.le_refl _)) hn hc hc1 hF)
  have HFF := Lib.hid (show f.size ≤ maxLen by unfold maxLen; omega)
  have HNM := Lib.hid (fun w' => (show Calls Tryz.prog 34 #[.string f] w' fun e w'' => e = .returned (.bool (nmS f)) ∧ w' = w'' from iNameOk_any f w' HFF.out))
  have HT : Hid (tripB F n f s = (legsB F n && inB n 1 3 && nmS f && inB s 1 4)) := rfl
  clear h hF hb0
  cases h1 : inB n 1 3 <;> cases h2 : nmS f <;> cases h3 : inB s 1 4 <;> cases h4 : legsB F n
  all_goals
    rw [h4] at HUN
    go_enter Tryz.func19, Tryz.ntmps19
    go_wp2_with (first | (go_at_call 32; ((with_reducible refine (in_any _ _ _ _).mono ?_); rintro e w' ⟨rfl, rfl⟩)) | (go_at_call 33; ((with_reducible refine (HUN.out).mono ?_); rintro e w' ⟨rfl, rfl⟩)) | (go_at_call 34; ((with_reducible refine (HNM.out _).mono ?_); rintro e w' ⟨rfl, rfl⟩)))
    go_ret
    exact ⟨ret_bool (by rw [HT.out, h1, h2, h3, h4]; rfl), HB.out⟩

end My
end Go.Proofs.YtjmlekhgnbbjoaaGreatDoor
