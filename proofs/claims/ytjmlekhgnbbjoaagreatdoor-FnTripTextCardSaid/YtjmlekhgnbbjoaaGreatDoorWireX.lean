/- FnExactWirePut: how its slice is opened; the walk. -/
import Derived.Test.YtjmlekhgnbbjoaaGreatDoorWire
import Derived.SliceStrings
import Derived.ProofKit
namespace Go.Proofs.YtjmlekhgnbbjoaaGreatDoor
open Go.RowKit Go.Deep
set_option linter.unusedVariables false
namespace My

structure StrsIn (w : World) (a : Option Addr) (len cap : Nat) (F : Nat → ByteArray) : Prop where
  le : len ≤ cap
  max : cap ≤ maxLen
  each : ∀ i, i < len → (F i).size ≤ 9223372036854775807
  at_ : InS w a len F
theorem addr_addS (b off n : Nat) : Addr.add ⟨b, off, none⟩ n = ⟨b, off + n, none⟩ := by
  by_cases h : n = 0 <;> simp [Addr.add, h]

/-- Texts that came in. -/
theorem openStrings {H : Type} {enc : TypeId × Value → H} {W : World} {a : Option Addr} {len cap : Nat} {d : DataW H} {p : List MemPlace}
    (h : DataW.Trod enc Tryz.prog W 0 (fun _ => true) true 24 (.slice a len cap) d p) : ∃ z : Nat → ByteArray, StrsIn W a len cap z := by
  obtain ⟨fuel, hf⟩ := h
  rcases Go.ChangeShapes.open_strings Tryz.underlying24 Tryz.underlying9 (by kernel_rfl) hf with ⟨hcs, _⟩ | ⟨x, l, c, zs, hcs, _, hl, hm, hz, _, hcell, hwz⟩
  · simp [Value.cells] at hcs
    obtain ⟨rfl, rfl, rfl⟩ := hcs
    exact ⟨fun _ => ⟨#[]⟩, Nat.le_refl _, by simp [maxLen], fun i hi => by omega, Or.inl rfl⟩
  · simp [Value.cells] at hcs
    obtain ⟨rfl, rfl, rfl⟩ := hcs
    have hz' : zs.length = cap := by simpa using hz
    refine ⟨fun i => zs.getD i ByteArray.empty, hl, hm, ?_, ?_⟩
    · intro i hi
      have := hwz (zs.getD i ByteArray.empty) (by
        rw [List.getD_eq_getElem?_getD, List.getElem?_eq_getElem (by omega)]
        exact List.getElem_mem _)
      unfold maxLen at this
      omega
    · by_cases h0 : len = 0
      · exact Or.inl h0
      · obtain ⟨b, off, spot⟩ := x
        have hspot : spot = none := by simpa [Addr.add] using World.cell?_spot (hcell 0 (by omega))
        subst hspot
        have hb : b < W.heap.size := World.block_lt_of_cell? W _ (hcell 0 (by omega))
        refine Or.inr ⟨b, off, rfl, fun j hj => ?_, hb⟩
        have := hcell j (by omega)
        rwa [addr_addS] at this

end My
end Go.Proofs.YtjmlekhgnbbjoaaGreatDoor
