/- The contracts of the functions on amounts and names: what each returns, the world unchanged. No condition. -/
import Derived.Test.YtjmlekhgnbbjoaaGreatDoorRows
import Derived.WalkKit
import Derived.Lib.Hide
import Derived.Below
namespace Go.Proofs.YtjmlekhgnbbjoaaGreatDoor
open Go.RowKit
namespace My

/-- Within a range. -/
def inB (n lo hi : Int) : Bool := decide (lo ≤ n) && decide (n ≤ hi)
def mOk (n : Int) : Bool := inB n (-1000000000000) 1000000000000

theorem inB_true {n lo hi : Int} (h : inB n lo hi = true) : lo ≤ n ∧ n ≤ hi := by simpa [inB] using h
theorem inB_false {n lo hi : Int} (h : inB n lo hi = false) : n < lo ∨ hi < n := by
  simp only [inB, Bool.and_eq_false_iff, decide_eq_false_iff_not] at h; omega
theorem inB_yes {n lo hi : Int} (h : lo ≤ n ∧ n ≤ hi) : inB n lo hi = true := by simpa [inB] using h
theorem inB_no {n lo hi : Int} (h : n < lo ∨ hi < n) : inB n lo hi = false := by
  simp only [inB, Bool.and_eq_false_iff, decide_eq_false_iff_not]; omega
theorem mOk_true {n : Int} (h : mOk n = true) : -1000000000000 ≤ n ∧ n ≤ 1000000000000 := inB_true h
theorem mOk_false {n : Int} (h : mOk n = false) : n < -1000000000000 ∨ 1000000000000 < n := inB_false h

theorem all_succ {p : Nat → Bool} {k : Nat} (h : ∀ j, j < k → p j = true) (hk : p k = true) : ∀ j, j < k + 1 → p j = true := by
  intro j hj
  by_cases e : j = k
  · rw [e]; exact hk
  · exact h j (by omega)
/-- A cell of an old block, behind a new one. -/
theorem cellA {w : World} {o : Obj} {p : Addr} (h : p.block < w.heap.size) : (w.alloc o).cell? p = w.cell? p :=
  ((Below.refl w.heap.size w).alloc (Nat.le_refl _) o).cell h
theorem bT {w w1 w2 : World} (h : Below w.heap.size w w1) (k : Below w1.heap.size w1 w2) : Below w.heap.size w w2 := h.trans (k.mono h.size)
theorem bF {b : Bool} (h : ¬ b = true) : b = false := by simpa using h
theorem ret_bool {a b : Bool} (h : a = b) : Ending.returned (.bool a) = .returned (.bool b) := by rw [h]
theorem ret_int {k : IntKind} {a b : Int} (h : a = b) : Ending.returned (.int k a) = .returned (.int k b) := by rw [h]
theorem ret_ib {a b : Int} {c d : Bool} (h : a = b) (k : c = d) : Ending.returned (.tuple #[.int .i64 a, .bool c]) = .returned (.tuple #[.int .i64 b, .bool d]) := by rw [h, k]

theorem l1In_any (n lo hi : Int) (w : World) :
    Calls Tryz.prog 31 #[.int .i64 n, .int .i64 lo, .int .i64 hi] w fun e w' => e = .returned (.bool (inB n lo hi)) ∧ w = w' := by
  go_enter Tryz.func31, Tryz.ntmps31
  go_wp2
  all_goals
    go_ret
    exact ⟨ret_bool (by first | (rw [inB_no (by omega)]) | (simp [inB]; omega)), rfl⟩

theorem in_any (n lo hi : Int) (w : World) :
    Calls Tryz.prog 32 #[.int .i64 n, .int .i64 lo, .int .i64 hi] w fun e w' => e = .returned (.bool (inB n lo hi)) ∧ w = w' := by
  go_enter Tryz.func32, Tryz.ntmps32
  go_wp2
  all_goals
    go_ret
    exact ⟨ret_bool (by first | (rw [inB_no (by omega)]) | (simp [inB]; omega)), rfl⟩

/-- What 'amount' returns. -/
def amtV (n : Int) (ok : Bool) : Int := if ok && mOk n then n else 0
def amtB (n : Int) (ok : Bool) : Bool := ok && mOk n

/-- MoneyAdd, as both have it, of two numbers that fit an int. -/
def addB (a b : Int) : Bool := mOk a && mOk b && mOk (a + b)
def addV (a b : Int) : Int := if addB a b then a + b else 0

/-- A letter; a name. -/
def letB (c : UInt8) : Bool := decide (97 ≤ (c.toNat : Int)) && decide ((c.toNat : Int) ≤ 122)
def nameB (l : List UInt8) : Bool := l.all letB && inB l.length 1 8

theorem take_snoc (s : ByteArray) (k : Nat) (h : k < s.size) : s.data.toList.take (k + 1) = s.data.toList.take k ++ [s[k]] := by
  rw [List.take_succ_eq_append_getElem (by simpa using h)]; rfl

theorem all_take_succ (s : ByteArray) (k : Nat) (h : k < s.size) (ha : (s.data.toList.take k).all letB = true) (hl : letB s[k] = true) :
    (s.data.toList.take (k + 1)).all letB = true := by
  rw [take_snoc s k h, List.all_append, ha]; simpa using hl
theorem nameB_bad (s : ByteArray) (k : Nat) (h : k < s.size) (hl : letB s[k] = false) : nameB s.data.toList = false := by
  have : s.data.toList.all letB = false := by
    rw [List.all_eq_false]
    refine ⟨s[k], ?_, by simp [hl]⟩
    show s.data.toList[k]'(by simpa using h) ∈ _
    exact List.getElem_mem _
  simp [nameB, this]
theorem nameB_end (s : ByteArray) (ha : (s.data.toList.take s.size).all letB = true) : nameB s.data.toList = inB s.size 1 8 := by
  rw [List.take_of_length_le (by simp)] at ha
  simp only [nameB, ha, Bool.true_and]; congr 1

set_option maxHeartbeats 400000 in
theorem sNameOk_any (s : ByteArray) (w : World) (hs : s.size ≤ maxLen) :
    Calls Tryz.prog 42 #[.string s] w fun e w' => e = .returned (.bool (nameB s.data.toList)) ∧ w = w' := by
  unfold maxLen at hs
  go_enter Tryz.func42, Tryz.ntmps42
  go_wp2_with fail
  go_loop [3] (fun i => ∃ k : Nat, k ≤ s.size ∧ i = .int .i64 k ∧ (s.data.toList.take k).all letB = true) (fun i => s.size - (intOf i).toNat)
  case atStart => exact ⟨0, Nat.zero_le _, rfl, rfl⟩
  case round =>
    obtain ⟨k, hk, rfl, hal⟩ := hrel
    have HAL := Lib.hid hal
    clear hal
    by_cases hlt : k < s.size
    · have hbad := nameB_bad s k hlt
      have hgood := all_take_succ s k hlt HAL.out
      have HB := Lib.hid hbad
      have HG := Lib.hid hgood
      clear hbad hgood
      go_wp2_with fail
      all_goals first
        | (go_ret; exact ⟨ret_bool (by rw [HB.out (by simp only [letB, Bool.and_eq_false_iff, decide_eq_false_iff_not]; omega)]), rfl⟩)
        | (go_round; case rel => exact ⟨k + 1, by omega, by go_num, HG.out (by simp only [letB, Bool.and_eq_true, decide_eq_true_eq]; omega)⟩
           case measure => simp [intOf]; omega)
    · go_wp2_with (go_at_call 31; ((with_reducible refine (l1In_any _ _ _ _).mono ?_); rintro e w' ⟨rfl, rfl⟩))
      go_ret
      exact ⟨ret_bool (by rw [nameB_end s (by rw [show s.size = k from by omega]; exact HAL.out)]), rfl⟩

set_option maxHeartbeats 400000 in
theorem iNameOk_any (s : ByteArray) (w : World) (hs : s.size ≤ maxLen) :
    Calls Tryz.prog 34 #[.string s] w fun e w' => e = .returned (.bool (nameB s.data.toList)) ∧ w = w' := by
  unfold maxLen at hs
  go_enter Tryz.func34, Tryz.ntmps34
  go_wp2_with fail
  go_loop [3] (fun i => ∃ k : Nat, k ≤ s.size ∧ i = .int .i64 k ∧ (s.data.toList.take k).all letB = true) (fun i => s.size - (intOf i).toNat)
  case atStart => exact ⟨0, Nat.zero_le _, rfl, rfl⟩
  case round =>
    obtain ⟨k, hk, rfl, hal⟩ := hrel
    have HAL := Lib.hid hal
    clear hal
    by_cases hlt : k < s.size
    · have hbad := nameB_bad s k hlt
      have hgood := all_take_succ s k hlt HAL.out
      have HB := Lib.hid hbad
      have HG := Lib.hid hgood
      clear hbad hgood
      go_wp2_with fail
      all_goals first
        | (go_ret; exact ⟨ret_bool (by rw [HB.out (by simp only [letB, Bool.and_eq_false_iff, decide_eq_false_iff_not]; omega)]), rfl⟩)
        | (go_round; case rel => exact ⟨k + 1, by omega, by go_num, HG.out (by simp only [letB, Bool.and_eq_true, decide_eq_true_eq]; omega)⟩
           case measure => simp [intOf]; omega)
    · go_wp2_with (go_at_call 32; ((with_reducible refine (in_any _ _ _ _).mono ?_); rintro e w' ⟨rfl, rfl⟩))
      go_ret
      exact ⟨ret_bool (by rw [nameB_end s (by rw [show s.size = k from by omega]; exact HAL.out)]), rfl⟩

end My
end Go.Proofs.YtjmlekhgnbbjoaaGreatDoor
