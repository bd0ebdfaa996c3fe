/- SHA-256: plain facts: the program's words are the reference's. -/
import Derived.Test.YtabpkabeabemmaaDoorHashM
namespace Go.Proofs.YtabpkabeabemmaaDoor
open Go.RowKit
set_option linter.unusedVariables false
namespace My

/-- What is below a power of two beside a multiple of it. -/
theorem or_add (k : Nat) (a b : Nat) (ha : a * 2 ^ k < 4294967296) (hb : b < 2 ^ k) (hb2 : b < 4294967296) : bits .or .u32 ((a * 2 ^ k : Nat) : Int) (b : Int) = ((a * 2 ^ k + b : Nat) : Int) := by
  rw [u32_or_nat _ _ ha hb2]
  have := Nat.shiftLeft_add_eq_or_of_lt (a := a) (b := b) (i := k) hb
  rw [Nat.shiftLeft_eq] at this
  rw [this]
theorem or8 (a b : Int) (ha : 0 ≤ a) (ha2 : a < 16777216) (hb : 0 ≤ b) (hb2 : b ≤ 255) : bits .or .u32 (a * 256 % 4294967296) b = a * 256 + b := by
  obtain ⟨x, rfl⟩ : ∃ x : Nat, a = x := ⟨a.toNat, by omega⟩
  obtain ⟨y, rfl⟩ : ∃ y : Nat, b = y := ⟨b.toNat, by omega⟩
  rw [show ((x : Int) * 256 % 4294967296) = ((x * 2 ^ 8 : Nat) : Int) from by omega]
  rw [or_add 8 x y (by omega) (by omega) (by omega)]
  omega
theorem or16 (a b : Int) (ha : 0 ≤ a) (ha2 : a < 65536) (hb : 0 ≤ b) (hb2 : b ≤ 255) : bits .or .u32 (a * 65536) (b * 256 % 4294967296) = a * 65536 + b * 256 := by
  obtain ⟨x, rfl⟩ : ∃ x : Nat, a = x := ⟨a.toNat, by omega⟩
  obtain ⟨y, rfl⟩ : ∃ y : Nat, b = y := ⟨b.toNat, by omega⟩
  rw [show ((x : Int) * 65536) = ((x * 2 ^ 16 : Nat) : Int) from by omega, show ((y : Int) * 256 % 4294967296) = ((y * 256 : Nat) : Int) from by omega]
  rw [or_add 16 x (y * 256) (by omega) (by omega) (by omega)]
  omega
theorem or24 (a b : Int) (ha : 0 ≤ a) (ha2 : a ≤ 255) (hb : 0 ≤ b) (hb2 : b ≤ 255) : bits .or .u32 (a * 16777216 % 4294967296) (b * 65536 % 4294967296) = a * 16777216 + b * 65536 := by
  obtain ⟨x, rfl⟩ : ∃ x : Nat, a = x := ⟨a.toNat, by omega⟩
  obtain ⟨y, rfl⟩ : ∃ y : Nat, b = y := ⟨b.toNat, by omega⟩
  rw [show ((x : Int) * 16777216 % 4294967296) = ((x * 2 ^ 24 : Nat) : Int) from by omega, show ((y : Int) * 65536 % 4294967296) = ((y * 65536 : Nat) : Int) from by omega]
  rw [or_add 24 x (y * 65536) (by omega) (by omega) (by omega)]
  omega
theorem word4_val {B : Nat → Int} (lo : ∀ j, 0 ≤ B j) (hi : ∀ j, B j ≤ 255) (k : Nat) : word4 B k = ((B (4 * k) * 256 + B (4 * k + 1)) * 256 + B (4 * k + 2)) * 256 + B (4 * k + 3) := by
  have l0 := lo (4 * k); have l1 := lo (4 * k + 1); have l2 := lo (4 * k + 2); have l3 := lo (4 * k + 3)
  have h0 := hi (4 * k); have h1 := hi (4 * k + 1); have h2 := hi (4 * k + 2); have h3 := hi (4 * k + 3)
  unfold word4
  rw [or24 _ _ l0 h0 l1 h1]
  rw [show B (4 * k) * 16777216 + B (4 * k + 1) * 65536 = (B (4 * k) * 256 + B (4 * k + 1)) * 65536 from by omega]
  rw [or16 _ _ (by omega) (by omega) l2 h2]
  rw [show (B (4 * k) * 256 + B (4 * k + 1)) * 65536 + B (4 * k + 2) * 256 = (((B (4 * k) * 256 + B (4 * k + 1)) * 256 + B (4 * k + 2)) * 256) % 4294967296 from by omega]
  rw [or8 _ _ (by omega) (by omega) l3 h3]
/-- The schedule hangs on its first sixteen words alone. -/
theorem sched_congr {F G : Nat → Int} (h : ∀ j, j < 16 → F j = G j) : ∀ m j, j < 16 + m → sched F m j = sched G m j
  | 0, j, hj => h j (by omega)
  | m + 1, j, hj => by
    have ih := sched_congr h m
    simp only [sched, setU]
    by_cases e : j = 16 + m
    · rw [if_pos e, if_pos e]
      unfold nxtW
      rw [ih (16 + m - 16) (by omega), ih (16 + m - 15) (by omega), ih (16 + m - 7) (by omega), ih (16 + m - 2) (by omega)]
    · rw [if_neg e, if_neg e]
      exact ih j (by omega)
end My
end Go.Proofs.YtabpkabeabemmaaDoor
