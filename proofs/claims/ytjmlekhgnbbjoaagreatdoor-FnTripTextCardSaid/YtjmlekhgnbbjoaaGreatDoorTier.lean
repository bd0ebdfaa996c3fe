/- The contracts of TiersOf and of what it calls. -/
import Derived.Test.YtjmlekhgnbbjoaaGreatDoorPart
import Derived.IntWalk
import Derived.WalkSmall
namespace Go.Proofs.YtjmlekhgnbbjoaaGreatDoor
open Go.RowKit
set_option linter.unusedVariables false
namespace My



def mF (ms : List (Int × Int)) (k : Nat) : Int := (ms.getD k (0, 0)).1
def mP (ms : List (Int × Int)) (k : Nat) : Int := (ms.getD k (0, 0)).2

/-- The marks lie in a row of cells. -/
structure MarksAt (w : World) (b off : Nat) (ms : List (Int × Int)) : Prop where
  f : ∀ k, k < ms.length → w.cell? ⟨b, off + k * 2, none⟩ = some (.int .i64 (mF ms k))
  p : ∀ k, k < ms.length → w.cell? ⟨b, off + k * 2 + 1, none⟩ = some (.int .i64 (mP ms k))
  lt : b < w.heap.size

theorem MarksAt.below {w w' : World} {b off B : Nat} {ms : List (Int × Int)} (h : MarksAt w b off ms) (hb : Below B w w') (hB : w.heap.size ≤ B) : MarksAt w' b off ms :=
  ⟨fun k hk => (hb.cell (p := ⟨b, off + k * 2, none⟩) (Nat.lt_of_lt_of_le h.lt hB)).trans (h.f k hk), fun k hk => (hb.cell (p := ⟨b, off + k * 2 + 1, none⟩) (Nat.lt_of_lt_of_le h.lt hB)).trans (h.p k hk), Nat.lt_of_lt_of_le h.lt hb.size⟩

def stepB (ms : List (Int × Int)) (k : Nat) : Bool :=
  inB (mF ms k) 0 1000000000 && inB (mP ms k) 0 1000000 && (decide (k = 0) || decide (mF ms (k - 1) < mF ms k))
def marksB (ms : List (Int × Int)) : Bool := (List.range ms.length).all (stepB ms) && inB ms.length 1 5 && decide (mF ms 0 = 0)

theorem marksB_bad {ms : List (Int × Int)} {k : Nat} (hk : k < ms.length) (h : stepB ms k = false) : marksB ms = false := by
  have : (List.range ms.length).all (stepB ms) = false := by
    rw [List.all_eq_false]; exact ⟨k, by simpa using hk, by simp [h]⟩
  simp [marksB, this]
theorem marksB_bad0 {ms : List (Int × Int)} (h : ¬ mF ms 0 = 0) : marksB ms = false := by simp [marksB, h]
theorem marksB_end {ms : List (Int × Int)} (h : ∀ j, j < ms.length → stepB ms j = true) (h0 : 0 < ms.length → mF ms 0 = 0) : marksB ms = inB ms.length 1 5 := by
  have a : (List.range ms.length).all (stepB ms) = true := by simpa using h
  have b : mF ms 0 = 0 := by
    cases ms with
    | nil => rfl
    | cons x r => exact h0 (by simp)
  simp [marksB, a, b]

theorem stepB_f {ms : List (Int × Int)} {k : Nat} (h : inB (mF ms k) 0 1000000000 = false) : stepB ms k = false := by simp [stepB, h]
theorem stepB_p {ms : List (Int × Int)} {k : Nat} (h : inB (mP ms k) 0 1000000 = false) : stepB ms k = false := by simp [stepB, h]
theorem stepB_l {ms : List (Int × Int)} {k : Nat} (h : mF ms k ≤ mF ms (k - 1)) (hk : 0 < k) : stepB ms k = false := by
  have a : ¬ mF ms (k - 1) < mF ms k := by omega
  have b : ¬ k = 0 := by omega
  simp [stepB, a, b]
theorem stepB_ok {ms : List (Int × Int)} {k : Nat} (h : inB (mF ms k) 0 1000000000 = true) (h' : inB (mP ms k) 0 1000000 = true) (g : k = 0 ∨ mF ms (k - 1) < mF ms k) : stepB ms k = true := by
  simpa [stepB, h, h'] using g

set_option maxHeartbeats 1000000 in
theorem l4Marks_some (b off cap : Nat) (ms : List (Int × Int)) (w : World) (h : MarksAt w b off ms) (hl : ms.length ≤ 9223372036854775807) (hc : ms.length ≤ cap) :
    Calls Tryz.prog 103 #[.slice (some ⟨b, off, none⟩) ms.length cap] w fun e w' => e = .returned (.bool (marksB ms)) ∧ Below w.heap.size w w' := by
  obtain ⟨hf, hp, hb⟩ := h
  have HF := Lib.hid hf
  have HP := Lib.hid hp
  clear hf hp
  go_enter Tryz.func103, Tryz.ntmps103
  go_wp2_with fail
  go_loopw [3] (fun i w' => ∃ k : Nat, k ≤ ms.length ∧ i = .int .i64 k ∧ (∀ j, j < k → stepB ms j = true) ∧ (0 < k → mF ms 0 = 0) ∧ Below w.heap.size w w') (fun i _ => ms.length - (intOf i).toNat)
  case atStart => exact ⟨0, Nat.zero_le _, rfl, by omega, by omega, Below.refl _ _⟩
  case round =>
    obtain ⟨k, hk, rfl, hal, h0, hbel⟩ := hrel
    have HAL := Lib.hid hal
    have H0 := Lib.hid h0
    have HB := Lib.hid hbel
    clear hal h0 hbel
    by_cases hlt : k < ms.length
    · have cf := (HB.out.cell (p := ⟨b, off + k * 2, none⟩) hb).trans (HF.out k hlt)
      have cp := (HB.out.cell (p := ⟨b, off + k * 2 + 1, none⟩) hb).trans (HP.out k hlt)
      cases hA : inB (mF ms k) 0 1000000000
      · have HN := Lib.hid (marksB_bad hlt (stepB_f hA))
        go_wp2_with fail
        go_quiet ((go_at_call 31; exact quietS (l1In_any _ _ _ _)))
        go_wp2_with fail
        go_ret
        exact ⟨ret_bool HN.out.symm, (by repeat (first | exact HB.out | exact Below.refl _ _ | apply below_drewN | apply Below.drew | refine Below.alloc ?_ (by have := HB.out.size; first | omega | (simp; done) | (simp; omega)) _))⟩
      cases hB : inB (mP ms k) 0 1000000
      · have HN := Lib.hid (marksB_bad hlt (stepB_p hB))
        go_wp2_with fail
        go_quiet ((go_at_call 31; exact quietS (l1In_any _ _ _ _)))
        go_wp2_with fail
        go_ret
        exact ⟨ret_bool HN.out.symm, (by repeat (first | exact HB.out | exact Below.refl _ _ | apply below_drewN | apply Below.drew | refine Below.alloc ?_ (by have := HB.out.size; first | omega | (simp; done) | (simp; omega)) _))⟩
      by_cases hz : k = 0
      · have hz1 : ((k : Int) == 0) = true := by simp [hz]
        have hz2 : decide (0 < k) = false := by simp [hz]
        have HZ := Lib.hid hz
        clear hz
        by_cases h00 : mF ms k = 0
        · have z1 : (mF ms k == 0) = true := by simp [h00]
          have z2 : (mF ms k != 0) = false := by simp [h00]
          have HY := Lib.hid (stepB_ok hA hB (Or.inl HZ.out))
          have H00 := Lib.hid h00
          clear h00
          go_wp2_with fail
          go_quiet ((go_at_call 31; exact quietS (l1In_any _ _ _ _)))
          go_wp2_with fail
          go_roundw
          case rel => exact ⟨k + 1, by omega, by go_num, all_succ HAL.out HY.out, fun _ => by have := H00.out; rw [HZ.out] at this; exact this, (by repeat (first | exact HB.out | exact Below.refl _ _ | apply below_drewN | apply Below.drew | refine Below.alloc ?_ (by have := HB.out.size; first | omega | (simp; done) | (simp; omega)) _))⟩
          case measure => simp [intOf]; omega
        · have z1 : (mF ms k == 0) = false := by simp [h00]
          have z2 : (mF ms k != 0) = true := by simp [h00]
          have HN := Lib.hid (marksB_bad0 (ms := ms) (by rw [HZ.out] at h00; exact h00))
          clear h00
          go_wp2_with fail
          go_quiet ((go_at_call 31; exact quietS (l1In_any _ _ _ _)))
          go_wp2_with fail
          go_ret
          exact ⟨ret_bool HN.out.symm, (by repeat (first | exact HB.out | exact Below.refl _ _ | apply below_drewN | apply Below.drew | refine Below.alloc ?_ (by have := HB.out.size; first | omega | (simp; done) | (simp; omega)) _))⟩
      · have cq := (HB.out.cell (p := ⟨b, off + (k - 1) * 2, none⟩) hb).trans (HF.out (k - 1) (by omega))
        have hbr : b < wr.heap.size := Nat.lt_of_lt_of_le hb HB.out.size
        have cq2 : ∀ o, (wr.alloc o).cell? ⟨b, off + (k - 1) * 2, none⟩ = some (.int .i64 (mF ms (k - 1))) := fun o => (cellA hbr).trans cq
        have hz1 : ((k : Int) == 0) = false := by simp [hz]
        have hz2 : decide (0 < k) = true := by simp; omega
        have hz3 : (0 : Int) ≤ (k : Int) - 1 := by omega
        have hz5 : (1 : Int) ≤ (k : Int) := by omega
        have hz6 : 1 ≤ k := by omega
        have hz7 : 0 < k := by omega
        have hz8 : (k : Int) - 1 < (ms.length : Int) := by omega
        have hw1 : IntKind.i64.wrap ((k : Int) - 1) = (k : Int) - 1 := IntWalk.i64_in _ (by omega)
        have hz4 : ((k : Int) - 1).toNat = k - 1 := by omega
        by_cases hgt : mF ms (k - 1) < mF ms k
        · have HY := Lib.hid (stepB_ok hA hB (Or.inr hgt))
          go_wp2_with fail
          go_quiet ((go_at_call 31; exact quietS (l1In_any _ _ _ _)))
          go_wp2_with fail
          go_roundw
          case rel => exact ⟨k + 1, by omega, by go_num, all_succ HAL.out HY.out, fun _ => H0.out hz7, (by repeat (first | exact HB.out | exact Below.refl _ _ | apply below_drewN | apply Below.drew | refine Below.alloc ?_ (by have := HB.out.size; first | omega | (simp; done) | (simp; omega)) _))⟩
          case measure => simp [intOf]; omega
        · have HN := Lib.hid (marksB_bad hlt (stepB_l (by omega) hz7))
          go_wp2_with fail
          go_quiet ((go_at_call 31; exact quietS (l1In_any _ _ _ _)))
          go_wp2_with fail
          go_ret
          exact ⟨ret_bool HN.out.symm, (by repeat (first | exact HB.out | exact Below.refl _ _ | apply below_drewN | apply Below.drew | refine Below.alloc ?_ (by have := HB.out.size; first | omega | (simp; done) | (simp; omega)) _))⟩
    · have HN := Lib.hid (marksB_end (ms := ms) (fun j hj => HAL.out j (by omega)) (fun hj => H0.out (by omega)))
      go_wp2_with (go_at_call 31; ((with_reducible refine (l1In_any _ _ _ _).mono ?_); rintro e w' ⟨rfl, rfl⟩))
      go_ret
      exact ⟨ret_bool HN.out.symm, (by repeat (first | exact HB.out | exact Below.refl _ _ | apply below_drewN | apply Below.drew | refine Below.alloc ?_ (by have := HB.out.size; first | omega | (simp; done) | (simp; omega)) _))⟩

end My
end Go.Proofs.YtjmlekhgnbbjoaaGreatDoor
