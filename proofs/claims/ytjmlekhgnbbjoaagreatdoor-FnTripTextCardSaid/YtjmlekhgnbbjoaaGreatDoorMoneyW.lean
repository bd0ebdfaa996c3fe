/- MoneyWrite, as both have it. -/
import Derived.Test.YtjmlekhgnbbjoaaGreatDoorDec
namespace Go.Proofs.YtjmlekhgnbbjoaaGreatDoor
open Go.RowKit Go.Deep
set_option linter.unusedVariables false
namespace My

/-- The library's table of powers of ten lies as its initialiser laid it. -/
def EnvT (w : World) : Prop := Lib.TabIs Tryz.prog w "internal/strconv.uint64pow10" .u64 Lib.pow10Tab
theorem EnvT.below {w w' : World} (h : EnvT w) (hb : Below w.heap.size w w') : EnvT w' := by
  unfold EnvT Lib.TabIs World.var? at h ⊢
  cases hg : Tryz.prog.globalNamed "internal/strconv.uint64pow10" with
  | none => rw [hg] at h; simp at h
  | some g =>
    rw [hg] at h
    simp only [Option.bind_some] at h ⊢
    have hlt : g < w.heap.size := by
      rcases Nat.lt_or_ge g w.heap.size with h' | h'
      · exact h'
      · rw [Array.getElem?_eq_none h'] at h; simp at h
    rw [hb.block g hlt]
    exact h
theorem EnvT.drewN {w : World} (h : EnvT w) (n : Nat) : EnvT (w.drewN n) := h.below (below_drewN (Below.refl _ _) n)
theorem EnvT.drew {w : World} (h : EnvT w) : EnvT w.drew := h.below ((Below.refl _ _).drew)
theorem EnvT.alloc {w : World} (h : EnvT w) (o : Obj) : EnvT (w.alloc o) := h.below ((Below.refl _ _).alloc (Nat.le_refl _) o)

theorem itoa_any (n : Int) (w : World) (h0 : -9223372036854775808 ≤ n) (h1 : n ≤ 9223372036854775807) (h : EnvT w) : Calls Tryz.prog 21 #[.int .i64 n] w (StrPost (Lib.itoa n) w) := by
  refine (Tryz.strconv_Itoa n h0 h1 w h).mono ?_
  rintro e w' ⟨rfl, k, os, rfl⟩
  refine ⟨rfl, ?_⟩
  refine ⟨rfl, rfl, rfl, by simp, fun i hi => ?_⟩
  exact Sort.heap_grow_old (w.drewN k) os hi

def absN (n : Int) : Nat := n.natAbs
theorem absI_nat (n : Int) : absI n = (absN n : Int) := by unfold absI absN; split <;> omega
def moneyU (u : Nat) : List UInt8 := Lib.decDigits (u / 100) ++ [46] ++ Lib.decDigits (u % 100 / 10) ++ Lib.decDigits (u % 100 % 10)
def moneyT (n : Int) : List UInt8 := (if n < 0 then [45] else []) ++ moneyU (absN n)
def mwT (n : Int) : List UInt8 := if mOk n then moneyT n else []

end My
end Go.Proofs.YtjmlekhgnbbjoaaGreatDoor
