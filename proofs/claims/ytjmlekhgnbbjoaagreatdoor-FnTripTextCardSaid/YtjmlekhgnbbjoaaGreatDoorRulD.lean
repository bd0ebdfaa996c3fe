/- What a drawing function keeps as it goes on: the reader, the rows that are done, its own blocks. -/
import Derived.Test.YtjmlekhgnbbjoaaGreatDoorRulM
import Derived.Test.YtjmlekhgnbbjoaaGreatDoorDrawW
namespace Go.Proofs.YtjmlekhgnbbjoaaGreatDoor
open Go.RowKit Go.Deep
set_option linter.unusedVariables false
namespace My

theorem heap_lt {w : World} {g : Nat} {o : Obj} (h : w.heap[g]? = some o) : g < w.heap.size := by
  by_cases hx : g < w.heap.size
  · exact hx
  · rw [Array.getElem?_eq_none (by omega)] at h; cases h
/-- The state of a drawing function that began in the world w0. -/
structure DS (w0 : World) (S : Nat → Option BK) (R K : Nat) (a : Option Addr) (len cap : Nat) (L : List (Nat × Obj)) (w : World) : Prop where
  rd : RdX w R K a len cap
  on : Only R w0 w
  rows : RowsIn S w
  far : len = 0 ∨ ∀ b, a = some b → b.block < w0.heap.size
  lt : R < w0.heap.size
  sR : S R = none
  loc : ∀ p, p ∈ L → w0.heap.size ≤ p.1 ∧ w.heap[p.1]? = some p.2 ∧ S p.1 = none
section
variable {w0 w w' : World} {S S' : Nat → Option BK} {R K K' : Nat} {a : Option Addr} {len cap : Nat} {L L' : List (Nat × Obj)}
theorem DS.mono (h : DS w0 S R K a len cap L w) (hK : K ≤ K') : DS w0 S R K' a len cap L w := ⟨h.rd.mono hK, h.on, h.rows, h.far, h.lt, h.sR, h.loc⟩
theorem DS.less (h : DS w0 S R K a len cap L w) (hL : ∀ p, p ∈ L' → p ∈ L) : DS w0 S R K a len cap L' w := ⟨h.rd, h.on, h.rows, h.far, h.lt, h.sR, fun p hp => h.loc p (hL p hp)⟩
theorem DS.pick (h : DS w0 S R K a len cap L w) (ho : Only R w w') (hr : RdX w' R K' a len cap) : DS w0 S R K' a len cap L w' :=
  ⟨hr, h.on.trans ho, h.rows.only ho h.sR, h.far, h.lt, h.sR, fun p hp => by
    obtain ⟨h1, h2, h3⟩ := h.loc p hp
    exact ⟨h1, (ho.block p.1 (heap_lt h2) (by intro e; cases e; have := h.lt; omega)).trans h2, h3⟩⟩
/-- The state as a callee begins. -/
theorem DS.here (h : DS w0 S R K a len cap L w) : DS w S R K a len cap [] w :=
  ⟨h.rd, Only.refl _ _, h.rows, by
    rcases h.far with h0 | h0
    · exact Or.inl h0
    · exact Or.inr fun b hb => Nat.lt_of_lt_of_le (h0 b hb) h.on.size, Nat.lt_of_lt_of_le h.lt h.on.size, h.sR, fun p hp => by cases hp⟩
/-- .. and as it ends. -/
theorem DS.call (h : DS w0 S R K a len cap L w) (k : DS w S' R K' a len cap [] w') (hm : More w.heap.size S S') : DS w0 S' R K' a len cap L w' :=
  ⟨k.rd, h.on.trans k.on, k.rows, h.far, h.lt, k.sR, fun p hp => by
    obtain ⟨h1, h2, h3⟩ := h.loc p hp
    have hlt := heap_lt h2
    exact ⟨h1, (k.on.block p.1 hlt (by intro e; cases e; have := h.lt; omega)).trans h2, (hm.2 p.1 hlt).trans h3⟩⟩
theorem DS.below (h : DS w0 S R K a len cap L w) (hb : Below w.heap.size w w') : DS w0 S R K a len cap L w' :=
  h.pick ⟨hb.os, hb.tape, hb.output, hb.size, fun k hk _ => hb.block k hk⟩ (h.rd.below hb)
theorem DS.alloc (h : DS w0 S R K a len cap L w) (o : Obj) : DS w0 S R K a len cap L (w.alloc o) := h.below ((Below.refl _ _).alloc (Nat.le_refl _) o)
theorem DS.drewN (h : DS w0 S R K a len cap L w) {n : Nat} : DS w0 S R K a len cap L (w.drewN n) := h.below (below_drewN (Below.refl _ _) n)
theorem DS.drew (h : DS w0 S R K a len cap L w) : DS w0 S R K a len cap L w.drew := h.below ((Below.refl _ _).drew)
theorem DS.add (h : DS w0 S R K a len cap L w) {B : Nat} {o : Obj} (hB : w0.heap.size ≤ B) (ho : w.heap[B]? = some o) (hS : S B = none) : DS w0 S R K a len cap ((B, o) :: L) w :=
  ⟨h.rd, h.on, h.rows, h.far, h.lt, h.sR, fun p hp => by
    rcases List.mem_cons.1 hp with rfl | hp
    · exact ⟨hB, ho, hS⟩
    · exact h.loc p hp⟩
theorem DS.box (h : DS w0 S R K a len cap L w) (vs : Array Value) (t : TypeId) : DS w0 S R K a len cap ((w.heap.size, .cells vs t (0, 0)) :: L) (w.alloc (.cells vs t)) :=
  (h.alloc _).add h.on.size (blk_alloc_new w _) (h.rows.fresh (Nat.le_refl _))
/-- A world that differs at or above the beginning alone, at no row that is done. -/
theorem DS.turn (h : DS w0 S R K a len cap L w) (hs : w.heap.size ≤ w'.heap.size) (hos : w'.os = w.os) (htp : w'.tape = w.tape) (hout : w'.output = w.output) {g : Nat} (hb : ∀ k, k < w.heap.size → k ≠ g → w'.heap[k]? = w.heap[k]?)
    (hg : w0.heap.size ≤ g) (hS : S g = none) (hL : ∀ p, p ∈ L' → p ∈ L ∧ p.1 ≠ g) : DS w0 S R K a len cap L' w' := by
  have hlt := h.lt
  refine ⟨?_, ?_, ?_, h.far, h.lt, h.sR, ?_⟩
  · obtain ⟨p, hp, hrd⟩ := h.rd
    refine ⟨p, hp, ?_⟩
    have hR := hb R hrd.lt (by omega)
    refine ⟨(World.cell?_of_block (w := w) hR).trans hrd.c0, (World.cell?_of_block (w := w) hR).trans hrd.c1, (World.frozen?_of_block (w := w) hR).trans hrd.f1, Nat.lt_of_lt_of_le hrd.lt hs, hrd.le, ?_⟩
    rcases hrd.bytes with h0 | ⟨b, off, ha, hbR, hbb, hz⟩
    · exact Or.inl h0
    · rcases h.far with h0 | hf
      · exact Or.inl h0
      · have hbw : b < w0.heap.size := hf _ ha
        refine Or.inr ⟨b, off, ha, hbR, Nat.lt_of_lt_of_le hbb hs, fun j hj => ?_⟩
        obtain ⟨z, hc, hz⟩ := hz j hj
        exact ⟨z, (World.cell?_of_block (w := w) (hb b hbb (by omega))).trans hc, hz⟩
  · exact ⟨hos.trans h.on.os, htp.trans h.on.tape, hout.trans h.on.output, Nat.le_trans h.on.size hs, fun k hk hne => (hb k (Nat.lt_of_lt_of_le hk h.on.size) (by omega)).trans (h.on.block k hk hne)⟩
  · exact h.rows.of_block hs (fun b k hk => hb b (h.rows b k hk).1 (by rintro rfl; rw [hS] at hk; cases hk))
  · intro p hp
    obtain ⟨h1, h2⟩ := hL p hp
    obtain ⟨h3, h4, h5⟩ := h.loc p h1
    exact ⟨h3, (hb p.1 (heap_lt h4) h2).trans h4, h5⟩
theorem DS.set (h : DS w0 S R K a len cap L w) {B : Nat} (i : Nat) (v : Value) (hB : w0.heap.size ≤ B) (hS : S B = none) (hL : ∀ p, p ∈ L' → p ∈ L ∧ p.1 ≠ B) : DS w0 S R K a len cap L' (w.setCell ⟨B, i, none⟩ v) :=
  h.turn (g := B) (by simp [World.setCell]) rfl rfl rfl (fun k hk hne => blk_setCell_other _ _ _ _ (by simpa using hne)) hB hS hL
theorem DS.grow (h : DS w0 S R K a len cap L w) {o : Option Nat} (hg : w.grownBy w' o) (hB : ∀ g, o = some g → w0.heap.size ≤ g ∧ S g = none ∧ ∀ p, p ∈ L → p.1 ≠ g) : DS w0 S R K a len cap L w' := by
  cases o with
  | none => exact h.below ⟨hg.os, hg.tape, hg.output, hg.size, fun k hk => hg.block k hk (by simp)⟩
  | some g =>
    obtain ⟨h1, h2, h3⟩ := hB g rfl
    exact h.turn (g := g) hg.size hg.os hg.tape hg.output (fun k hk hne => hg.block k hk (by simpa using hne)) h1 h2 (fun p hp => ⟨hp, h3 p hp⟩)
theorem DS.row (h : DS w0 S R K a len cap L w) {k : BK} {g : Nat} (hg : S g = none) (hgR : g ≠ R) (hL : ∀ p, p ∈ L → p.1 ≠ g) (hr : RowsIn (addK S g k) w) : DS w0 (addK S g k) R K a len cap L w :=
  ⟨h.rd, h.on, hr, h.far, h.lt, by unfold addK; rw [if_neg (Ne.symm hgR)]; exact h.sR, fun p hp => by
    obtain ⟨h1, h2, h3⟩ := h.loc p hp
    exact ⟨h1, h2, by unfold addK; rw [if_neg (hL p hp)]; exact h3⟩⟩
/-- A pick. -/
theorem pick_ds {n : Int} (h : DS w0 S R K a len cap L w) (hK : K ≤ 1000000000000) (hn : 1 ≤ n) (hn1 : n ≤ 1000000000000) :
    Calls Tryz.prog 25 #[.pointer (some ⟨R, 0, none⟩), .int .i64 n] w fun e w' => ∃ x : Int, e = .returned (.int .i64 x) ∧ 0 ≤ x ∧ x < n ∧ DS w0 S R (K + 1) a len cap L w' ∧ Only R w w' := by
  refine (pick_atX h.rd hK hn hn1).mono ?_
  rintro e w' ⟨x, rfl, x0, x1, hr, ho⟩
  exact ⟨x, rfl, x0, x1, h.pick ho hr, ho⟩
theorem of_ds {q : Nat} (h : DS w0 S R K a len cap L w) (hK : K ≤ 1000000000000) (g n c : Nat) (hn : 1 ≤ n) (hn1 : n ≤ 1000) (hc : n ≤ c) (hgR : g ≠ R) (hg : g < w.heap.size)
    (hall : ∀ i, i < n → ∃ v, w.cell? ⟨g, i, none⟩ = some v ∧ StrIn q v) :
    Calls Tryz.prog 26 #[.pointer (some ⟨R, 0, none⟩), .slice (some ⟨g, 0, none⟩) n c] w fun e w' => ∃ s : ByteArray, e = .returned (.string s) ∧ s.size ≤ q ∧ DS w0 S R (K + 1) a len cap L w' ∧ Only R w w' := by
  refine (of_at h.rd hK g n c hn hn1 hc hgR hg hall).mono ?_
  rintro e w' ⟨s, rfl, hs, hr, ho⟩
  exact ⟨s, rfl, hs, h.pick ho hr, ho⟩
end
theorem blk_set {w : World} {B : Nat} {cur : Array Value} {t : TypeId} {fr : Nat × Nat} (h : w.heap[B]? = some (.cells cur t fr)) (i : Nat) (v : Value) : (w.setCell ⟨B, i, none⟩ v).heap[B]? = some (.cells (cur.setIfInBounds i v) t fr) := by
  simp [World.setCell, Array.getElem?_modify, h]
theorem cell_of {w : World} {B : Nat} {cur : Array Value} {t : TypeId} {fr : Nat × Nat} (h : w.heap[B]? = some (.cells cur t fr)) (i : Nat) : w.cell? ⟨B, i, none⟩ = cur[i]? := by
  simp only [World.cell?, h]; rfl
theorem frozen_of {w : World} {B : Nat} {cur : Array Value} {t : TypeId} (h : w.heap[B]? = some (.cells cur t (0, 0))) (i : Nat) : w.frozen? ⟨B, i, none⟩ = false := by
  simp [World.frozen?, h]

theorem infoRule : (Tryz.prog.info? 89).map (fun i => (i.zero, i.size, i.bytes)) = some (some (.agg #[.int .i64 0, .int .i64 0, .string ⟨#[]⟩, .slice none 0 0, .slice none 0 0]), 5, 80) := by kernel_rfl

end My
end Go.Proofs.YtjmlekhgnbbjoaaGreatDoor
