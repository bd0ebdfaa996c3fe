/- The drawing functions of amounts. -/
import Derived.Test.YtjmlekhgnbbjoaaGreatDoorDraw
namespace Go.Proofs.YtjmlekhgnbbjoaaGreatDoor
open Go.RowKit Go.Deep
set_option linter.unusedVariables false
namespace My

/-- The bytes that came in. -/
def BytesIn (w : World) (a : Option Addr) (len cap : Nat) : Prop :=
  len ≤ cap ∧ cap ≤ maxLen ∧ (len = 0 ∨ ∃ b off, a = some ⟨b, off, none⟩ ∧ b < w.heap.size ∧ ∀ j, j < len → ∃ z : Int, w.cell? ⟨b, off + j, none⟩ = some (.int .u8 z) ∧ 0 ≤ z ∧ z ≤ 255)
theorem BytesIn.below {w w' : World} {a : Option Addr} {len cap : Nat} (h : BytesIn w a len cap) (hb : Below w.heap.size w w') : BytesIn w' a len cap := by
  obtain ⟨h1, h2, h⟩ := h
  refine ⟨h1, h2, ?_⟩
  rcases h with h | ⟨b, off, ha, hbb, hz⟩
  · exact Or.inl h
  · refine Or.inr ⟨b, off, ha, Nat.lt_of_lt_of_le hbb hb.size, fun j hj => ?_⟩
    obtain ⟨z, hc, hz⟩ := hz j hj
    exact ⟨z, (hb.cell (p := ⟨b, off + j, none⟩) hbb).trans hc, hz⟩

def OpenPost (w : World) (e : Ending) (w' : World) : Prop :=
  e = .returned (.pointer (some ⟨w.heap.size, 0, none⟩)) ∧ RdInv w' w.heap.size 0 ∧ Below w.heap.size w w'

theorem open_rd {w : World} {a : Option Addr} {len len' cap : Nat} {t : TypeId} (h : BytesIn w a len cap) (hl : len' ≤ len) (hl2 : len' ≤ 2000) :
    RdInv (w.alloc (.cells #[.slice a len' cap, .int .i64 0] t)) w.heap.size 0 := by
  have hblk := blk_alloc_new w (.cells #[.slice a len' cap, .int .i64 0] t)
  refine ⟨0, a, len', cap, Nat.le_refl _, ⟨by simp only [World.cell?, hblk]; rfl, by simp only [World.cell?, hblk]; rfl, by simp only [World.frozen?, hblk]; rfl, by simp, hl2, ?_⟩⟩
  rcases h.2.2 with h | ⟨b, off, ha, hbb, hz⟩
  · exact Or.inl (by omega)
  · refine Or.inr ⟨b, off, ha, by omega, by simp; omega, fun j hj => ?_⟩
    obtain ⟨z, hc, hz⟩ := hz j (by omega)
    exact ⟨z, (World.cell?_of_block (w := w) (blk_alloc_lt w _ b hbb)).trans hc, hz⟩

theorem l1Open_any (a : Option Addr) (len cap : Nat) (w : World) (h : BytesIn w a len cap) :
    Calls Tryz.prog 11 #[.slice a len cap] w (OpenPost w) := by
  have H := Lib.hid h
  obtain ⟨h1, h2, -⟩ := h
  unfold maxLen at h2
  by_cases hs : 2000 < len
  · go_enter Tryz.func11, Tryz.ntmps11
    go_wp2_with fail
    go_ret
    exact ⟨rfl, open_rd H.out (by omega) (Nat.le_refl _), (Below.refl _ _).alloc (Nat.le_refl _) _⟩
  · go_enter Tryz.func11, Tryz.ntmps11
    go_wp2_with fail
    go_ret
    exact ⟨rfl, open_rd H.out (Nat.le_refl _) (by omega), (Below.refl _ _).alloc (Nat.le_refl _) _⟩

theorem built2 {R : Nat} {w w' : World} {u v : Value} {t : TypeId} {fr : Nat × Nat} (hon : Only R (w.alloc (.cells #[u, v] t fr)) w') (hR : R < w.heap.size) :
    w'.cell? ⟨w.heap.size, 0, none⟩ = some u ∧ w'.cell? ⟨w.heap.size, 1, none⟩ = some v := by
  have hb := hon.block w.heap.size (by simp) (by simp; omega)
  rw [blk_alloc_new] at hb
  exact ⟨by simp only [World.cell?, hb]; rfl, by simp only [World.cell?, hb]; rfl⟩

def TwoPost (w : World) (e : Ending) (w' : World) : Prop :=
  ∃ x y : Int, e = .returned (.tuple #[.int .i64 x, .int .i64 y]) ∧ -1000000000000 ≤ x ∧ x ≤ 1000000000000 ∧ -1000000000000 ≤ y ∧ y ≤ 1000000000001 ∧ Below w.heap.size w w'

theorem drawn_below {wB w w' : World} {R : Nat} (hR : R = wB.heap.size) (hb : Below wB.heap.size wB w) (ho : Only R w w') : Below wB.heap.size wB w' :=
  hb.grown ho hb.size (fun k hk => by cases hk; omega)

theorem tup2 {A B A' B' : Value} (h : A = A') (k : B = B') : Ending.returned (.tuple #[A, B]) = .returned (.tuple #[A', B']) := by rw [h, k]

def selV (i : Int) (u v : Value) : Value := if i = 0 then u else v
theorem two_ix (i : Int) (h0 : 0 ≤ i) (h1 : i < 2) (w : World) (u v : Value) (t : TypeId) : (w.alloc (.cells #[u, v] t)).cell? ⟨w.heap.size, i.toNat, none⟩ = some (selV i u v) := by
  have hb := blk_alloc_new w (.cells #[u, v] t)
  have : i = 0 ∨ i = 1 := by omega
  rcases this with rfl | rfl <;> (simp only [World.cell?, hb]; rfl)
theorem selV_in {i : Int} {u v : Value} {P : Value → Prop} (hu : P u) (hv : P v) : P (selV i u v) := by
  unfold selV; split <;> assumption

end My
end Go.Proofs.YtjmlekhgnbbjoaaGreatDoor
