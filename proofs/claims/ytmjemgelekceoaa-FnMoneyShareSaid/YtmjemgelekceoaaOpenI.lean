/- How the laws' slices of ints are opened. -/
import Derived.Test.YtmjemgelekceoaaIntS
import Derived.Deep.SlicePairs
import Derived.ProofKit
namespace Go.Proofs.Ytmjemgelekceoaa
open Go.RowKit Go.Deep
set_option linter.unusedVariables false
namespace My

structure IntsIn (w : World) (a : Option Addr) (len cap : Nat) (f : Nat → Int) : Prop where
  le : len ≤ cap
  max : cap ≤ maxLen
  at_ : InI w a len f
theorem addr_addI (b off n : Nat) : Addr.add ⟨b, off, none⟩ n = ⟨b, off + n, none⟩ := by
  by_cases h : n = 0 <;> simp [Addr.add, h]

/-- Ints that came in. -/
theorem openInts {H : Type} {enc : TypeId × Value → H} {W : World} {a : Option Addr} {len cap : Nat} {d : DataW H} {p : List MemPlace}
    (h : DataW.Trod enc Try.prog W 0 (fun _ => true) true 22 (.slice a len cap) d p) : ∃ z : Nat → Int, IntsIn W a len cap z := by
  obtain ⟨fuel, hf⟩ := h
  rcases Go.ChangeShapes.open_ints Try.underlying22 Try.underlying3 (by kernel_rfl) hf with ⟨hcs, _⟩ | ⟨x, l, c, zs, hcs, _, hl, hm, hz, _, hcell, hwz⟩
  · simp [Value.cells] at hcs
    obtain ⟨rfl, rfl, rfl⟩ := hcs
    exact ⟨fun _ => 0, Nat.le_refl _, by simp [maxLen], Or.inl rfl⟩
  · simp [Value.cells] at hcs
    obtain ⟨rfl, rfl, rfl⟩ := hcs
    refine ⟨fun i => zs.getD i 0, hl, hm, ?_⟩
    by_cases h0 : len = 0
    · exact Or.inl h0
    · have hz' : zs.length = cap := by simpa using hz
      obtain ⟨b, off, spot⟩ := x
      have hspot : spot = none := by simpa [Addr.add] using World.cell?_spot (hcell 0 (by omega))
      subst hspot
      have hb : b < W.heap.size := World.block_lt_of_cell? W _ (hcell 0 (by omega))
      refine Or.inr ⟨b, off, rfl, fun j hj => ?_, hb⟩
      have := hcell j (by omega)
      rwa [addr_addI] at this

end My
end Go.Proofs.Ytmjemgelekceoaa
