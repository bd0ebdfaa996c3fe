/- Legs in memory. -/
import Derived.Test.YtjmlekhgnbbjoaaGreatDoorRulD
import Derived.Test.YtjmlekhgnbbjoaaGreatDoorRegT
import Derived.Deep.CutRange
namespace Go.Proofs.YtjmlekhgnbbjoaaGreatDoor
open Go.RowKit Go.Deep
set_option linter.unusedVariables false
namespace My

theorem infoI : (Tryz.prog.info? 3).map (fun i => (i.zero, i.size, i.bytes)) = some (some (.int .i64 0), 1, 8) := by kernel_rfl
/-- n small ints in a row of their own. -/
def IR (w : World) (base : Nat) (v : Value) (n : Nat) : Prop := ∃ xs, w.ownsRow base 3 1 v n xs ∧ ∀ x, x ∈ xs → ∃ z : Int, x = .int .i64 z ∧ 0 ≤ z ∧ z ≤ 1000
theorem IR.go {w w' : World} {base n R : Nat} {v : Value} (h : IR w base v n) (ho : Only R w w') (hR : R < base) : IR w' base v n := by
  obtain ⟨xs, hr, hx⟩ := h
  exact ⟨xs, hr.kept ho (Or.inr (fun e => by have := (hr.lt _ e).1; omega)), hx⟩
theorem IR.below {w w' : World} {base n : Nat} {v : Value} (h : IR w base v n) (hb : Below w.heap.size w w') : IR w' base v n := by
  obtain ⟨xs, hr, hx⟩ := h
  refine ⟨xs, hr.kept (row := none) ⟨hb.os, hb.tape, hb.output, hb.size, fun k hk _ => hb.block k hk⟩ ?_, hx⟩
  cases v.ownBlock <;> simp
theorem IR.alloc {w : World} {base n : Nat} {v : Value} (h : IR w base v n) (o : Obj) : IR (w.alloc o) base v n := h.below ((Below.refl _ _).alloc (Nat.le_refl _) o)
theorem IR.drew {w : World} {base n : Nat} {v : Value} (h : IR w base v n) : IR w.drew base v n := h.below ((Below.refl _ _).drew)
theorem IR.lit {w : World} {base n : Nat} (vs : Array Value) (hb : base ≤ w.heap.size) (hn : vs.size = n) (hn2 : n ≤ 1000) (hx : ∀ x, x ∈ vs.toList → ∃ z : Int, x = .int .i64 z ∧ 0 ≤ z ∧ z ≤ 1000) : IR (w.alloc (.cells vs 3)) base (.slice (some ⟨w.heap.size, 0, none⟩) n n) n :=
  ⟨vs.toList, World.ownsRow_lit w vs n hb (by unfold maxLen; omega) (by simpa using hn), hx⟩
theorem IR.form {w : World} {base n : Nat} {v : Value} (h : IR w base v n) (hn : 0 < n) : ∃ g c, v = .slice (some ⟨g, 0, none⟩) n c ∧ base ≤ g ∧ g < w.heap.size ∧ n ≤ c ∧ ∀ i, i < n → ∃ z : Int, w.cell? ⟨g, i, none⟩ = some (.int .i64 z) ∧ 0 ≤ z ∧ z ≤ 1000 := by
  obtain ⟨xs, hr, hx⟩ := h
  obtain ⟨g, c, rfl, h1, h2⟩ := hr.form hn
  have hc : n ≤ c := by
    rcases hr.2 with h | ⟨g2, c2, cur, h, _, _, h2, _⟩
    · cases h.1
    · simp only [Value.slice.injEq] at h; omega
  refine ⟨g, c, rfl, h1, h2, hc, fun i hi => ?_⟩
  have hl : i < xs.length := by have := hr.1; omega
  obtain ⟨z, e, z0, z1⟩ := hx xs[i] (List.getElem_mem hl)
  refine ⟨z, ?_, z0, z1⟩
  rw [hr.cellAt i (by omega), List.getElem?_eq_getElem hl, e]
theorem IR.frozen {w : World} {base n g c : Nat} (h : IR w base (.slice (some ⟨g, 0, none⟩) n c) n) (i : Nat) : w.frozen? ⟨g, i, none⟩ = false := by
  obtain ⟨xs, hr, hx⟩ := h
  exact hr.frozenAt i
theorem IR.push {w4 : World} {base n g c : Nat} {xs : List Value} {z : Int} (hown : w4.ownsRow base 3 1 (.slice (some ⟨g, 0, none⟩) (n + 1) c) (n + 1) (xs ++ [.int .i64 z])) (hx : ∀ x, x ∈ xs → ∃ z : Int, x = .int .i64 z ∧ 0 ≤ z ∧ z ≤ 1000) (hz : 0 ≤ z ∧ z ≤ 1000) :
    IR w4 base (.slice (some ⟨g, 0, none⟩) (n + 1) c) (n + 1) := by
  refine ⟨_, hown, fun x h => ?_⟩
  rcases List.mem_append.1 h with h | h
  · exact hx x h
  · rw [List.mem_singleton] at h
    exact ⟨z, h, hz⟩
/-- Rows of two kinds are two rows. -/
theorem IR.other {w : World} {base n g : Nat} {v : Value} {cur : Array Value} {t : TypeId} {fr : Nat × Nat} (h : IR w base v n) (hg : w.heap[g]? = some (.cells cur t fr)) (ht : t ≠ 3) : v.ownBlock ≠ some g := by
  obtain ⟨xs, hr, _⟩ := h
  intro e
  rcases hr.2 with ⟨rfl, _⟩ | ⟨g2, c2, cur2, rfl, _, hg2, _⟩
  · simp [Value.ownBlock] at e
  · simp [Value.ownBlock] at e
    subst e
    rw [hg] at hg2
    simp only [Option.some.injEq, Obj.cells.injEq] at hg2
    exact ht hg2.2.1
theorem IR.kept {w w' : World} {base n : Nat} {o : Option Nat} {v : Value} (h : IR w base v n) (hg : w.grownBy w' o) (hne : ∀ g, o = some g → v.ownBlock ≠ some g) : IR w' base v n := by
  obtain ⟨xs, hr, hx⟩ := h
  refine ⟨xs, hr.kept hg ?_, hx⟩
  cases hv : v.ownBlock with
  | none => exact Or.inl rfl
  | some b =>
    refine Or.inr ?_
    intro e
    exact hne b e.symm hv
theorem IR.set {w : World} {base n : Nat} {v : Value} (h : IR w base v n) {B : Nat} (i : Nat) (u : Value) (hB : v.ownBlock ≠ some B) : IR (w.setCell ⟨B, i, none⟩ u) base v n := by
  obtain ⟨xs, hr, hx⟩ := h
  refine ⟨xs, ⟨hr.1, ?_⟩, hx⟩
  rcases hr.2 with h | ⟨g, c, cur, rfl, h1, h2, h3⟩
  · exact Or.inl h
  · refine Or.inr ⟨g, c, cur, rfl, h1, ?_, h3⟩
    rw [blk_setCell_other _ _ _ _ (by simpa [Value.ownBlock] using hB)]
    exact h2

theorem news_1 (w : World) (v : Value) (t : TypeId) : ∀ j u, [v][j]? = some u → (w.alloc (.cells #[v] t)).cell? (Addr.add ⟨w.heap.size, 0, none⟩ j) = some u :=
  World.news_of_block (blk_alloc_new w (.cells #[v] t))
theorem mul_small {z y : Int} (z0 : 0 ≤ z) (z1 : z ≤ 1000) (y0 : 0 ≤ y) (y1 : y < 10) : (0 ≤ z * y ∧ z * y ≤ 10000) ∧ 0 ≤ (z * y).tdiv 10 ∧ (z * y).tdiv 10 ≤ 1000 := by
  have h0 : 0 ≤ z * y := Int.mul_nonneg z0 y0
  have h1 : z * y ≤ z * 10 := Int.mul_le_mul_of_nonneg_left (by omega) z0
  rw [Int.tdiv_eq_ediv_of_nonneg h0]
  omega
/-- No row of rules or of marks is done. -/
def noS : Nat → Option BK := fun _ => none
/-- An append to a row of a leg, and its store. -/
theorem leg_push {w0 wE w4 : World} {R K X B m g g' c c' f : Nat} {a : Option Addr} {len cap : Nat} {cur cb : Array Value} {o : Obj} {xs : List Value} {z : Int}
    (hd : DS w0 noS R K a len cap [(X, .cells cur 80 (0, 0)), (B, .cells cb 80 (0, 0))] wE) (hBX : B < X)
    (hrow : wE.ownsRow w0.heap.size 3 1 (.slice (some ⟨g, 0, none⟩) m c) m xs) (hx : ∀ x, x ∈ xs → ∃ z : Int, x = .int .i64 z ∧ 0 ≤ z ∧ z ≤ 1000) (hz : 0 ≤ z ∧ z ≤ 1000)
    (hown : w4.ownsRow w0.heap.size 3 1 (.slice (some ⟨g', 0, none⟩) (m + 1) c') (m + 1) (xs ++ [.int .i64 z]))
    (hgrow : (wE.alloc o).grownBy w4 (Value.ownBlock (.slice (some ⟨g, 0, none⟩) m c))) (hat : Value.ownBlock (.slice (some ⟨g, 0, none⟩) m c) = some g' ∨ g' = wE.heap.size + 1) :
    DS w0 noS R K a len cap [(X, .cells cur 80 (0, 0)), (B, .cells cb 80 (0, 0))] w4 ∧
    IR (w4.setCell ⟨X, f, none⟩ (.slice (some ⟨g', 0, none⟩) (m + 1) c')) w0.heap.size (.slice (some ⟨g', 0, none⟩) (m + 1) c') (m + 1) ∧
    DS w0 noS R K a len cap [(X, .cells (cur.setIfInBounds f (.slice (some ⟨g', 0, none⟩) (m + 1) c')) 80 (0, 0)), (B, .cells cb 80 (0, 0))] (w4.setCell ⟨X, f, none⟩ (.slice (some ⟨g', 0, none⟩) (m + 1) c')) ∧
    ∀ v n, IR wE w0.heap.size v n → v.ownBlock ≠ some g → IR (w4.setCell ⟨X, f, none⟩ (.slice (some ⟨g', 0, none⟩) (m + 1) c')) w0.heap.size v n ∧ v.ownBlock ≠ some g' := by
  have hir : IR wE w0.heap.size (.slice (some ⟨g, 0, none⟩) m c) m := ⟨xs, hrow, hx⟩
  obtain ⟨hX0, hXb, -⟩ := hd.loc _ (.head _)
  obtain ⟨hB0, hBb, -⟩ := hd.loc _ (.tail _ (.head _))
  have hX0 : w0.heap.size ≤ X := hX0
  have hXg : X ≠ g := fun e => hir.other hXb (by decide) (by rw [e]; rfl)
  have hBg : B ≠ g := fun e => hir.other hBb (by decide) (by rw [e]; rfl)
  have hlt := hrow.lt g rfl
  have hd4 := (hd.alloc o).grow hgrow (fun q hq => by
    simp [Value.ownBlock] at hq
    subst hq
    refine ⟨hlt.1, rfl, fun p hp => ?_⟩
    rcases List.mem_cons.1 hp with rfl | hp
    · exact hXg
    · rw [List.mem_singleton] at hp
      subst hp
      exact hBg)
  obtain ⟨-, hXb4, -⟩ := hd4.loc _ (.head _)
  have hi4 := IR.push hown hx hz
  refine ⟨hd4, hi4.set f _ (hi4.other hXb4 (by decide)), ?_, ?_⟩
  · have hs := hd4.set (L' := [(B, .cells cb 80 (0, 0))]) f (.slice (some ⟨g', 0, none⟩) (m + 1) c') hX0 rfl (fun p hp => by
      rw [List.mem_singleton] at hp
      subst hp
      exact ⟨.tail _ (.head _), by show B ≠ X; omega⟩)
    exact hs.add hX0 (blk_set hXb4 f _) rfl
  · intro v n hv hne
    have hv4 : IR w4 w0.heap.size v n := (hv.alloc o).kept hgrow (fun q hq => by
      simp [Value.ownBlock] at hq
      subst hq
      exact hne)
    refine ⟨hv4.set f _ (hv4.other hXb4 (by decide)), ?_⟩
    rcases hat with e | e
    · simp [Value.ownBlock] at e
      subst e
      exact hne
    · intro h
      obtain ⟨ys, hy, _⟩ := hv
      have := (hy.lt _ h).2
      omega

/-- A leg that was drawn: its rows lie at or above a base. -/
def LegOK (w : World) (base : Nat) (D : Int) (hv v : Value) : Prop := ∃ (nm fr tt : ByteArray) (dp ar cp : Int) (vl vs vb : Value) (nb : Nat), v = .agg #[.string nm, .string fr, .string tt, .int .i64 dp, .int .i64 ar, .int .i64 cp, vl, vs, vb, hv] ∧ (nm.size ≤ 10 ∧ fr.size ≤ 10 ∧ tt.size ≤ 10) ∧ (0 ≤ dp ∧ dp ≤ D) ∧ (0 ≤ ar ∧ ar ≤ D + 10) ∧ (0 ≤ cp ∧ cp ≤ 10) ∧ IR w base vl 3 ∧ IR w base vs 3 ∧ (1 ≤ nb ∧ nb ≤ 3) ∧ IR w base vb nb

/-- The result is laid into its box. -/
theorem leg_out {w : World} {base n B : Nat} {v : Value} {cb : Array Value} {u0 u1 u2 u3 u4 u5 u6 u7 u8 u9 : Value} (h : IR w base v n) (hb : w.heap[B]? = some (.cells cb 80 (0, 0))) :
    IR ((((((((((w.setCell ⟨B, 0, none⟩ u0).setCell ⟨B, 1, none⟩ u1).setCell ⟨B, 2, none⟩ u2).setCell ⟨B, 3, none⟩ u3).setCell ⟨B, 4, none⟩ u4).setCell ⟨B, 5, none⟩ u5).setCell ⟨B, 6, none⟩ u6).setCell ⟨B, 7, none⟩ u7).setCell ⟨B, 8, none⟩ u8).setCell ⟨B, 9, none⟩ u9) base v n := by
  have hne := h.other hb (by decide)
  exact (((((((((h.set 0 u0 hne).set 1 u1 hne).set 2 u2 hne).set 3 u3 hne).set 4 u4 hne).set 5 u5 hne).set 6 u6 hne).set 7 u7 hne).set 8 u8 hne).set 9 u9 hne
theorem leg_ds {w0 w : World} {R K B : Nat} {a : Option Addr} {len cap : Nat} {L : List (Nat × Obj)} {u0 u1 u2 u3 u4 u5 u6 u7 u8 u9 : Value} (h : DS w0 noS R K a len cap L w) (hB : w0.heap.size ≤ B) :
    DS w0 noS R K a len cap [] ((((((((((w.setCell ⟨B, 0, none⟩ u0).setCell ⟨B, 1, none⟩ u1).setCell ⟨B, 2, none⟩ u2).setCell ⟨B, 3, none⟩ u3).setCell ⟨B, 4, none⟩ u4).setCell ⟨B, 5, none⟩ u5).setCell ⟨B, 6, none⟩ u6).setCell ⟨B, 7, none⟩ u7).setCell ⟨B, 8, none⟩ u8).setCell ⟨B, 9, none⟩ u9) := by
  have hnil : ∀ p, p ∈ ([] : List (Nat × Obj)) → p ∈ ([] : List (Nat × Obj)) ∧ p.1 ≠ B := fun p hp => by cases hp
  exact ((((((((((h.less (L' := []) (fun p hp => by cases hp)).set 0 u0 hB rfl hnil).set 1 u1 hB rfl hnil).set 2 u2 hB rfl hnil).set 3 u3 hB rfl hnil).set 4 u4 hB rfl hnil).set 5 u5 hB rfl hnil).set 6 u6 hB rfl hnil).set 7 u7 hB rfl hnil).set 8 u8 hB rfl hnil).set 9 u9 hB rfl hnil

/-- The cells of a row of small ints, to be appended. -/
theorem IR.news {w : World} {base n g c : Nat} (h : IR w base (.slice (some ⟨g, 0, none⟩) n c) n) :
    ∃ xs : List Value, xs.length = n ∧ (∀ j u, xs[j]? = some u → w.cell? (Addr.add ⟨g, 0, none⟩ j) = some u) ∧ (∀ u, u ∈ xs → u.oneCell' = true) ∧ ∀ x, x ∈ xs → ∃ z : Int, x = .int .i64 z ∧ 0 ≤ z ∧ z ≤ 1000 := by
  obtain ⟨xs, hr, hx⟩ := h
  have hl : xs.length = n := by have := hr.1; omega
  refine ⟨xs, hl, ?_, ?_, hx⟩
  · intro j u hu
    have hj : j < n := by
      rw [← hl]
      exact (List.getElem?_eq_some_iff.1 hu).1
    have hadd : (⟨g, 0, none⟩ : Addr).add j = ⟨g, j, none⟩ := by unfold Addr.add; split <;> simp_all
    rw [hadd, hr.cellAt j (by omega)]
    exact hu
  · intro u hu
    obtain ⟨z, rfl, _⟩ := hx u hu
    rfl

end My
end Go.Proofs.YtjmlekhgnbbjoaaGreatDoor
