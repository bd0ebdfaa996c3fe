/- WirePut, as both have it. -/
import Derived.Test.YtjmlekhgnbbjoaaGreatDoorStrs
import Derived.Deep.RegionWith
namespace Go.Proofs.YtjmlekhgnbbjoaaGreatDoor
open Go.RowKit Go.Deep
set_option linter.unusedVariables false
namespace My

/-- One word, and k words, as they are written. -/
def word1 (s : ByteArray) : List UInt8 := Lib.decDigits s.size ++ [58] ++ s.data.toList ++ [44]
def putL (F : Nat → ByteArray) : Nat → List UInt8
  | 0 => []
  | k + 1 => putL F k ++ word1 (F k)
def wpT (F : Nat → ByteArray) (n : Nat) : List UInt8 := if n ≤ 40 ∧ (putL F n).length ≤ 6000 then putL F n else []
theorem putL_len (F : Nat → ByteArray) (n : Nat) (h : sumZ F n ≤ 1048576) : ∀ k, k ≤ n → (txt (putL F k)).size ≤ 21 * k + sumZ F k
  | 0, _ => by rw [txt_size]; exact Nat.zero_le _
  | k + 1, hk => by
    have ih := putL_len F n h k (by omega)
    have h1 := sumZ_each (F := F) (n := n) (k := k) (by omega)
    have h2 := dec_size (F k).size (by omega)
    rw [txt_size] at *
    simp only [putL, word1, sumZ, List.length_append, List.length_cons, List.length_nil]
    have e : (F k).data.toList.length = (F k).size := Array.length_toList
    omega

theorem isBuilder_below {T e : TypeId} {B b : Nat} {bs : List Value} {w w' : World} (h : Lib.IsBuilder T e B b bs w) (hb : Below w.heap.size w w') : Lib.IsBuilder T e B b bs w' := by
  have gen : ∀ p, Lib.BuilderAt T e B b p bs w → Lib.BuilderAt T e B b p bs w' := by
    rintro p ⟨hB, v, hh, hown, hne⟩
    have hlt : b < w.heap.size := Lib.BuilderAt.lt ⟨hB, v, hh, hown, hne⟩
    refine ⟨hB, v, (hb.block b hlt).trans hh, ?_, hne⟩
    exact hown.kept (row := none) ⟨hb.os, hb.tape, hb.output, hb.size, fun k hk _ => hb.block k hk⟩ (by cases hv : v.ownBlock with
      | none => exact Or.inl rfl
      | some x => exact Or.inr (by simp))
  exact h.elim (fun x => Or.inl (gen _ x)) (fun x => Or.inr (gen _ x))
theorem isBuilder_drewN {T e : TypeId} {B b : Nat} {bs : List Value} {w : World} (h : Lib.IsBuilder T e B b bs w) (z : Nat) : Lib.IsBuilder T e B b bs (w.drewN z) := isBuilder_below h (below_drewN (Below.refl _ _) z)

end My
end Go.Proofs.YtjmlekhgnbbjoaaGreatDoor
