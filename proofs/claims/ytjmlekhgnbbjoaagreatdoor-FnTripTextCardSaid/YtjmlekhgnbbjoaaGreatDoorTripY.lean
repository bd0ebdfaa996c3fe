/- FnExactTripRead: the walk. -/
import Derived.Test.YtjmlekhgnbbjoaaGreatDoorTripS
namespace Go.Proofs.YtjmlekhgnbbjoaaGreatDoor
open Go.RowKit Go.Deep
set_option linter.unusedVariables false
namespace My

/-- All blocks but one are as they were. -/
def Kept (n : Nat) (a : Option Addr) (w w' : World) : Prop := ∀ k, k < w.heap.size → n = 0 ∨ a ≠ some ⟨k, 0, none⟩ → w'.heap[k]? = w.heap[k]?
theorem Kept.below {n : Nat} {a : Option Addr} {w w1 w2 : World} (h : Kept n a w w1) (hs : w.heap.size ≤ w1.heap.size) (hb : Below w1.heap.size w1 w2) : Kept n a w w2 :=
  fun k hk he => (hb.block k (Nat.lt_of_lt_of_le hk hs)).trans (h k hk he)
theorem Kept.setCell {n g : Nat} {w w1 : World} (h : Kept n (some ⟨g, 0, none⟩) w w1) (hn : 0 < n) (i : Nat) (v : Value) : Kept n (some ⟨g, 0, none⟩) w (w1.setCell ⟨g, i, none⟩ v) := by
  intro k hk he
  have hne : ¬ g = k := by
    rintro rfl
    rcases he with he | he
    · omega
    · exact he rfl
  rw [← h k hk he]
  simp [World.setCell, Array.getElem?_modify, hne]

theorem trPost_same {T : List UInt8} {F G : Nat → ByteArray} {n m : Nat} {f g : ByteArray} {s t : Int} {b c : Bool} (h : (b = true ∧ IsT T F n f s) ∨ (b = false ∧ n = 0 ∧ f = ⟨#[]⟩ ∧ s = 0 ∧ ∀ G m f s, ¬ IsT T G m f s))
    (h' : (c = true ∧ IsT T G m g t) ∨ (c = false ∧ m = 0 ∧ g = ⟨#[]⟩ ∧ t = 0 ∧ ∀ G m f s, ¬ IsT T G m f s)) : b = c ∧ n = m ∧ f = g ∧ s = t ∧ ∀ i, i < n → F i = G i := by
  rcases h with ⟨rfl, h⟩ | ⟨rfl, rfl, rfl, rfl, h⟩ <;> rcases h' with ⟨rfl, h'⟩ | ⟨rfl, rfl, rfl, rfl, h'⟩
  · obtain ⟨h1, h2, h3, h4⟩ := h.inj h'
    exact ⟨rfl, h1, h3, h4, h2⟩
  · exact absurd h (h' _ _ _ _)
  · exact absurd h' (h _ _ _ _)
  · exact ⟨rfl, rfl, rfl, rfl, fun i hi => by omega⟩

end My
end Go.Proofs.YtjmlekhgnbbjoaaGreatDoor
