/- The contracts of TiersOf and of what it calls: the program's half. -/
import Derived.Test.YtdoiklcaiafcpaaTier
namespace Go.Proofs.Ytdoiklcaiafcpaa
open Go.RowKit
set_option linter.unusedVariables false
namespace My

theorem marksB_end' {ms : List (Int × Int)} (h : ∀ j, j < ms.length → stepB ms j = true) (h0 : inB ms.length 1 5 = true) : marksB ms = (mF ms 0 == 0) := by
  have a : (List.range ms.length).all (stepB ms) = true := by simpa using h
  simp [marksB, a, h0]; rfl

set_option maxHeartbeats 1000000 in
theorem marksOk_some (b off cap : Nat) (ms : List (Int × Int)) (w : World) (h : MarksAt w b off ms) (hl : ms.length ≤ 9223372036854775807) (hc : ms.length ≤ cap) :
    Calls Try.prog 41 #[.slice (some ⟨b, off, none⟩) ms.length cap] w fun e w' => e = .returned (.bool (marksB ms)) ∧ Below w.heap.size w w' := by
  obtain ⟨hf, hp, hb⟩ := h
  have HF := Lib.hid hf
  have HP := Lib.hid hp
  clear hf hp
  go_enter Try.func41, Try.ntmps41
  go_wp2_with fail
  go_loopw [7] (fun i w' => ∃ k : Nat, k ≤ ms.length ∧ i = .int .i64 k ∧ (∀ j, j < k → stepB ms j = true) ∧ Below w.heap.size w w') (fun i _ => ms.length - (intOf i).toNat)
  case atStart => exact ⟨0, Nat.zero_le _, rfl, by omega, Below.refl _ _⟩
  case round =>
    obtain ⟨k, hk, rfl, hal, hbel⟩ := hrel
    have HAL := Lib.hid hal
    have HB := Lib.hid hbel
    clear hal hbel
    by_cases hlt : k < ms.length
    · have cf := (HB.out.cell (p := ⟨b, off + k * 2, none⟩) hb).trans (HF.out k hlt)
      have cp := (HB.out.cell (p := ⟨b, off + k * 2 + 1, none⟩) hb).trans (HP.out k hlt)
      have hbr : b < wr.heap.size := Nat.lt_of_lt_of_le hb HB.out.size
      have cq2 : 0 < k → ∀ o, (wr.alloc o).cell? ⟨b, off + (k - 1) * 2, none⟩ = some (.int .i64 (mF ms (k - 1))) := fun hk0 o => (cellA hbr).trans ((HB.out.cell (p := ⟨b, off + (k - 1) * 2, none⟩) hb).trans (HF.out (k - 1) (by omega)))
      have hw1 : IntKind.i64.wrap ((k : Int) - 1) = (k : Int) - 1 := IntWalk.i64_in _ (by omega)
      have hz4 : ((k : Int) - 1).toNat = k - 1 := by omega
      have hz8 : (k : Int) - 1 < (ms.length : Int) := by omega
      go_wp2_with fail
      (refine wp_region_quiet_lit (by kernel_rfl) (by kernel_rfl) ?_; (repeat (any_goals (first | go_big_quiet_step (((go_at_call 32; exact quietS (in_any _ _ _ _)))) | quiet_step (((go_at_call 32; exact quietS (in_any _ _ _ _)))) | (refine wpQuiet_step (fun K hK => ?_); go_simp; split <;> (refine hK _ ?_; clear hK K))))); all_goals (refine wpQuiet_nil ?_; intro _ hw'; obtain ⟨nq, hw''⟩ := hw'; subst hw''))
      all_goals go_wp2_with fail
      all_goals first
        | (go_ret; exact ⟨ret_bool (marksB_bad hlt (by first | exact stepB_l (by omega) (by omega) | exact stepB_p (bF ‹_›) | exact stepB_f (bF ‹_›))).symm, (by repeat (first | exact HB.out | exact Below.refl _ _ | apply below_drewN | apply Below.drew | refine Below.alloc ?_ (by have := HB.out.size; first | omega | (simp; done) | (simp; omega)) _))⟩)
        | (go_roundw
           case rel => exact ⟨k + 1, by omega, by go_num, all_succ HAL.out (stepB_ok ‹_› ‹_› (by first | (right; omega) | (left; omega))), (by repeat (first | exact HB.out | exact Below.refl _ _ | apply below_drewN | apply Below.drew | refine Below.alloc ?_ (by have := HB.out.size; first | omega | (simp; done) | (simp; omega)) _))⟩
           case measure => simp [intOf]; omega)
    · have HS : Hid (∀ j, j < ms.length → stepB ms j = true) := fun j hj => HAL.out j (by omega)
      cases hlen : inB ms.length 1 5
      · go_wp2_with (go_at_call 32; ((with_reducible refine (in_any _ _ _ _).mono ?_); rintro e w' ⟨rfl, rfl⟩))
        go_ret
        exact ⟨ret_bool (by simp [marksB, hlen]), (by repeat (first | exact HB.out | exact Below.refl _ _ | apply below_drewN | apply Below.drew | refine Below.alloc ?_ (by have := HB.out.size; first | omega | (simp; done) | (simp; omega)) _))⟩
      · have hpos : 0 < ms.length := by have := inB_true hlen; omega
        have c0 : wr.cell? ⟨b, off, none⟩ = some (.int .i64 (mF ms 0)) := by
          have := (HB.out.cell (p := ⟨b, off + 0 * 2, none⟩) hb).trans (HF.out 0 hpos)
          simpa using this
        go_wp2_with (go_at_call 32; ((with_reducible refine (in_any _ _ _ _).mono ?_); rintro e w' ⟨rfl, rfl⟩))
        all_goals
          go_ret
          exact ⟨ret_bool (marksB_end' HS.out hlen).symm, (by repeat (first | exact HB.out | exact Below.refl _ _ | apply below_drewN | apply Below.drew | refine Below.alloc ?_ (by have := HB.out.size; first | omega | (simp; done) | (simp; omega)) _))⟩

end My
end Go.Proofs.Ytdoiklcaiafcpaa
