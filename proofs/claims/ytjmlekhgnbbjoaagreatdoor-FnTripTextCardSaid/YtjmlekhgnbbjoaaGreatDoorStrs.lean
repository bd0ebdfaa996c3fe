/- Slices of strings in memory; the exact laws' helpers on them. -/
import Derived.Test.YtjmlekhgnbbjoaaGreatDoorEnv
import Derived.WalkSmall
import Derived.Deep.OwnRows
import Derived.StillTailTactics
import Derived.Laws.ResultCell
import Derived.OwnWalk
namespace Go.Proofs.YtjmlekhgnbbjoaaGreatDoor
open Go.RowKit Go.Deep
set_option linter.unusedVariables false
namespace My

/-- n texts lie in a row of cells. -/
structure StrsAt (w : World) (b off n : Nat) (F : Nat → ByteArray) : Prop where
  c : ∀ i, i < n → w.cell? ⟨b, off + i, none⟩ = some (.string (F i))
  lt : b < w.heap.size
theorem StrsAt.below {w w' : World} {b off n B : Nat} {F : Nat → ByteArray} (h : StrsAt w b off n F) (hb : Below B w w') (hB : w.heap.size ≤ B) : StrsAt w' b off n F :=
  ⟨fun i hi => (hb.cell (p := ⟨b, off + i, none⟩) (Nat.lt_of_lt_of_le h.lt hB)).trans (h.c i hi), Nat.lt_of_lt_of_le h.lt hb.size⟩
def InS (w : World) (a : Option Addr) (n : Nat) (F : Nat → ByteArray) : Prop := n = 0 ∨ ∃ b off, a = some ⟨b, off, none⟩ ∧ StrsAt w b off n F
theorem InS.below {w w' : World} {a : Option Addr} {n B : Nat} {F : Nat → ByteArray} (h : InS w a n F) (hb : Below B w w') (hB : w.heap.size ≤ B) : InS w' a n F := by
  rcases h with h | ⟨b, off, e, k⟩
  · exact Or.inl h
  · exact Or.inr ⟨b, off, e, k.below hb hB⟩
theorem InS.drewN {w : World} {a : Option Addr} {n : Nat} {F : Nat → ByteArray} (h : InS w a n F) (z : Nat) : InS (w.drewN z) a n F := h.below (below_drewN (Below.refl w.heap.size w) z) (Nat.le_refl _)
/-- n texts lie at the head of a block that may be written. -/
def OwnT (w : World) (g n : Nat) (F : Nat → ByteArray) : Prop := ∃ t cur, w.heap[g]? = some (.cells cur t (0, 0)) ∧ ∀ i, i < n → cur[i]? = some (.string (F i))
theorem OwnT.cell {w : World} {g n : Nat} {F : Nat → ByteArray} (h : OwnT w g n F) {i : Nat} (hi : i < n) : w.cell? ⟨g, i, none⟩ = some (.string (F i)) := by
  obtain ⟨t, cur, hh, hc⟩ := h
  simp only [World.cell?, hh]; exact hc i hi
theorem OwnT.frozen {w : World} {g n : Nat} {F : Nat → ByteArray} (h : OwnT w g n F) (i : Nat) : w.frozen? ⟨g, i, none⟩ = false := by
  obtain ⟨t, cur, hh, hc⟩ := h
  simp [World.frozen?, hh]
theorem OwnT.lt {w : World} {g n : Nat} {F : Nat → ByteArray} (h : OwnT w g n F) : g < w.heap.size := by
  obtain ⟨t, cur, hh, hc⟩ := h
  by_cases hx : g < w.heap.size
  · exact hx
  · rw [Array.getElem?_eq_none (by omega)] at hh; cases hh
theorem OwnT.strs {w : World} {g n : Nat} {F : Nat → ByteArray} (h : OwnT w g n F) : StrsAt w g 0 n F :=
  ⟨fun i hi => by rw [Nat.zero_add]; exact h.cell hi, h.lt⟩
theorem OwnT.inS {w : World} {g n : Nat} {F : Nat → ByteArray} (h : OwnT w g n F) : InS w (some ⟨g, 0, none⟩) n F := Or.inr ⟨g, 0, rfl, h.strs⟩
theorem OwnT.of_block {w w' : World} {g n : Nat} {F : Nat → ByteArray} (h : OwnT w g n F) (e : w'.heap[g]? = w.heap[g]?) : OwnT w' g n F := by
  obtain ⟨t, cur, hh, hc⟩ := h
  exact ⟨t, cur, e.trans hh, hc⟩
theorem OwnT.below {w w' : World} {g n B : Nat} {F : Nat → ByteArray} (h : OwnT w g n F) (hb : Below B w w') (hB : w.heap.size ≤ B) : OwnT w' g n F :=
  h.of_block (hb.block g (Nat.lt_of_lt_of_le h.lt hB))
def setT (F : Nat → ByteArray) (i : Nat) (v : ByteArray) : Nat → ByteArray := fun j => if j = i then v else F j
theorem OwnT.set {w : World} {g n : Nat} {F : Nat → ByteArray} (h : OwnT w g n F) (i : Nat) (v : ByteArray) : OwnT (w.setCell ⟨g, i, none⟩ (.string v)) g n (setT F i v) := by
  obtain ⟨t, cur, hh, hc⟩ := h
  refine ⟨t, cur.setIfInBounds i (.string v), ?_, ?_⟩
  · simp [World.setCell, Array.getElem?_modify, hh]
  · intro j hj
    rw [Array.getElem?_setIfInBounds]
    by_cases e : i = j
    · subst e
      have : i < cur.size := by
        by_cases hx : i < cur.size
        · exact hx
        · have := hc i hj; rw [Array.getElem?_eq_none (by omega)] at this; cases this
      simp [this, setT]
    · have e' : ¬ j = i := fun h => e h.symm
      simp [e, setT, e', hc j hj]
theorem OwnT.congr {w : World} {g n : Nat} {F F' : Nat → ByteArray} (h : OwnT w g n F) (e : ∀ i, i < n → F i = F' i) : OwnT w g n F' := by
  obtain ⟨t, cur, hh, hc⟩ := h
  exact ⟨t, cur, hh, fun i hi => by rw [hc i hi, e i hi]⟩
theorem infoStr : (Tryz.prog.info? 9).map (fun i => (i.zero, i.size, i.bytes)) = some (some (.string ⟨#[]⟩), 1, 16) := by kernel_rfl
theorem run_makeS (n : Nat) (hn : n ≤ 1048576) (w : World) :
    (Instr.makeSlice 24 (.int .i64 (n : Int)) (.int .i64 (n : Int))).run Tryz.prog w = .ok (.slice (some ⟨w.heap.size, 0, none⟩) n n) (w.alloc (.cells (madeCells #[.string ⟨#[]⟩] n) 9)) := by
  obtain ⟨i, hi, h0, h1, h2⟩ := info_parts infoStr
  have hr := run_make (P := Tryz.prog) w 24 9 i (.string ⟨#[]⟩) Tryz.underlying24 hi h0 .i64 .i64 (n : Int) (n : Int) (by omega) (by omega) (by rw [h2]; omega) (by omega)
  simpa [h1, Value.cells] using hr
theorem own_madeS (w : World) (n : Nat) : OwnT (w.alloc (.cells (madeCells #[.string ⟨#[]⟩] n) 9)) w.heap.size n (fun _ => ⟨#[]⟩) := by
  refine ⟨9, _, blk_alloc_new _ _, fun i hi => ?_⟩
  simp [madeCells, hi, Nat.mod_one]

def sumZ (F : Nat → ByteArray) : Nat → Nat
  | 0 => 0
  | k + 1 => sumZ F k + (F k).size
theorem sumZ_le {F : Nat → ByteArray} {n : Nat} : ∀ d k, k + d = n → sumZ F k ≤ sumZ F n
  | 0, k, h => by rw [show k = n from by omega]; exact Nat.le_refl _
  | d + 1, k, h => by
    have := sumZ_le (F := F) (n := n) d (k + 1) (by omega)
    simp only [sumZ] at this
    omega
theorem sumZ_part {F : Nat → ByteArray} {n k : Nat} (h : k ≤ n) : sumZ F k ≤ sumZ F n := sumZ_le (n - k) k (by omega)
theorem sumZ_each {F : Nat → ByteArray} {n k : Nat} (h : k < n) : (F k).size ≤ sumZ F n := by
  have := sumZ_part (F := F) (n := n) (k := k + 1) (by omega)
  simp only [sumZ] at this
  omega

/-- Strings that came in: as the exact laws' size says. -/
def SzPost (left : Int) (n : Nat) (F : Nat → ByteArray) (w : World) (e : Ending) (w' : World) : Prop :=
  ∃ r : Int, e = .returned (.int .i64 r) ∧ (0 ≤ r → r = left - n - sumZ F n) ∧ r ≤ left ∧ -1 ≤ r ∧ w' = w

def mixT (F : Nat → ByteArray) (k i : Nat) : ByteArray := if i < k then F i else ⟨#[]⟩
theorem mixT_set {F : Nat → ByteArray} {k : Nat} (i : Nat) : setT (mixT F k) k (F k) i = mixT F (k + 1) i := by
  simp only [setT, mixT]
  by_cases h : i = k
  · subst h; simp
  · rw [if_neg h]
    by_cases h2 : i < k
    · rw [if_pos h2, if_pos (by omega)]
    · rw [if_neg h2, if_neg (by omega)]

end My
end Go.Proofs.YtjmlekhgnbbjoaaGreatDoor
