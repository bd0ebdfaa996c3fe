/- The walk of the drawn law on names: it returns true. -/
import Derived.Test.YtdoiklcaiafcpaaDrawN
namespace Go.Proofs.Ytdoiklcaiafcpaa
open Go.RowKit Go.Deep
set_option linter.unusedVariables false
namespace My

theorem wsIn_any (n lo hi : Int) (w : World) :
    Calls Try.prog 21 #[.int .i64 n, .int .i64 lo, .int .i64 hi] w fun e w' => e = .returned (.bool (inB n lo hi)) ∧ w = w' := by
  go_enter Try.func21, Try.ntmps21
  go_wp2
  all_goals
    go_ret
    exact ⟨ret_bool (by first | (rw [inB_no (by omega)]) | (simp [inB]; omega)), rfl⟩

/-- What the law has gathered after k bytes. -/
def allTo (s : ByteArray) (k : Nat) : Bool := inB s.size 1 8 && (s.data.toList.take k).all letB

theorem allTo_no {s : ByteArray} {k : Nat} (h : allTo s k = false) : allTo s (k + 1) = false := by
  unfold allTo at *
  cases hi : inB s.size 1 8
  · rfl
  · rw [hi, Bool.true_and, List.all_eq_false] at h
    rw [Bool.true_and, List.all_eq_false]
    obtain ⟨x, hx, hp⟩ := h
    exact ⟨x, List.take_subset_take_left _ (by omega) hx, hp⟩
theorem take_drop_one (s : ByteArray) (k : Nat) (h : k < s.size) : List.take 1 (List.drop k s.data.toList) = [s[k]] := by
  rw [List.drop_eq_getElem_cons (by simpa using h)]; rfl
theorem size_extract_le (s : ByteArray) (a b : Nat) : (s.extract a b).size ≤ s.size := by
  simp only [ByteArray.size_extract]; omega
theorem allTo_step {s : ByteArray} {k : Nat} (hk : k < s.size) (h : allTo s k = true) : allTo s (k + 1) = nameB (List.take 1 (List.drop k s.data.toList)) := by
  rw [take_drop_one s k hk]
  simp only [allTo, Bool.and_eq_true] at h
  simp only [allTo, take_snoc s k hk, List.all_append, h.1, h.2, Bool.true_and, nameB]
  simp [inB]
theorem allTo_end (s : ByteArray) : allTo s s.size = nameB s.data.toList := by
  unfold allTo nameB
  rw [List.take_of_length_le (by simp), Bool.and_comm]
  congr 1

set_option maxHeartbeats 2000000 in
theorem FnNameOk_walk (a0 : Option Addr) (len0 cap0 : Nat) (z0 : Unit) (w : World) (h : BytesIn w a0 len0 cap0) :
    Calls Try.prog 8 #[.slice a0 len0 cap0] w fun e w' => e = .returned (.bool true) ∧ Below w.heap.size w w' := by
  have HH := Lib.hid h
  have hc : len0 ≤ 9223372036854775807 := by have := h.1; have := h.2.1; unfold maxLen at this; omega
  clear h
  by_cases hl : 1048576 < len0
  · go_enter Try.func8, Try.ntmps8
    go_wp2_with fail
    go_ret
    exact ⟨rfl, Below.refl _ _⟩
  · go_enter Try.func8, Try.ntmps8
    go_wp2_with fail
    refine (DrawNameOk_any _ _ _ _ HH.out).mono ?_
    rintro e w1 ⟨s, rfl, hs, hb⟩
    have HB := Lib.hid hb
    clear hb
    go_wp2_with (first | (go_at_call 16; ((with_reducible refine (iNameOk_any _ _ (by unfold maxLen; omega)).mono ?_); rintro e w' ⟨rfl, rfl⟩)) | (go_at_call 21; ((with_reducible refine (wsIn_any _ _ _ _).mono ?_); rintro e w' ⟨rfl, rfl⟩)))
    have h0 : inB (s.size : Int) 1 8 = allTo s 0 := by simp [allTo]
    have H0 := Lib.hid h0
    clear h0
    go_loop [5, 6] (fun b i => ∃ k : Nat, k ≤ s.size ∧ i = .int .i64 k ∧ b = .bool (allTo s k)) (fun _ i => s.size - (intOf i).toNat)
    case atStart => exact ⟨0, Nat.zero_le _, rfl, by rw [H0.out]⟩
    case round =>
      obtain ⟨k, hk, rfl, rfl⟩ := hrel
      by_cases hlt : k < s.size
      · cases ha : allTo s k
        · have HN := Lib.hid (allTo_no ha)
          go_wp2_with fail
          go_round
          case rel => exact ⟨k + 1, by omega, by go_num, by rw [HN.out]⟩
          case measure => simp [intOf]; omega
        · have HN := Lib.hid (allTo_step hlt ha)
          have hsl := @run_slice_string Try.prog
          have hb1 : (0 : Int) ≤ (k : Int) := by omega
          have hb2 : (k : Int) ≤ (k : Int) + 1 := by omega
          have hb3 : (k : Int) + 1 ≤ (s.size : Int) := by omega
          go_wp2_with (go_at_call 16; ((with_reducible refine (iNameOk_any _ _ (by have := size_extract_le s k (k + 1); unfold maxLen; omega)).mono ?_); rintro e w' ⟨rfl, rfl⟩))
          go_round
          case rel => exact ⟨k + 1, by omega, by go_num, by rw [HN.out]⟩
          case measure => simp [intOf]; omega
      · have he : k = s.size := by omega
        subst he
        have HE := Lib.hid (allTo_end s)
        go_wp2_with (go_at_call 15; ((with_reducible refine (sNameOk_any _ _ (by unfold maxLen; omega)).mono ?_); rintro e w' ⟨rfl, rfl⟩))
        go_ret
        exact ⟨ret_bool (by rw [HE.out]; simp), HB.out⟩

end My
end Go.Proofs.Ytdoiklcaiafcpaa
