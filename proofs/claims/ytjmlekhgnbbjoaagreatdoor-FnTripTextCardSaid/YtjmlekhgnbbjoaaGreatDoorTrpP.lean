/- Drawn trips: fares to be read, a trip's legs, l8Next. -/
import Derived.Test.YtjmlekhgnbbjoaaGreatDoorNetQ
import Derived.Test.YtjmlekhgnbbjoaaGreatDoorFare
import Derived.Test.YtjmlekhgnbbjoaaGreatDoorRegT
import Derived.Deep.CutRange
namespace Go.Proofs.YtjmlekhgnbbjoaaGreatDoor
open Go.RowKit Go.Deep
set_option linter.unusedVariables false
namespace My

/-- Fares that lie in memory: their names. -/
structure FareIn (w : World) (g n : Nat) : Prop where
  lt : g < w.heap.size
  nm : ∀ i, i < n → ∃ s : ByteArray, w.cell? ⟨g, i * 3, none⟩ = some (.string s) ∧ s.size ≤ 10
theorem FareIn.go {w w' : World} {g n R : Nat} (h : FareIn w g n) (ho : Only R w w') (hne : g ≠ R) : FareIn w' g n := by
  have hb := ho.block g h.lt (by simp; omega)
  refine ⟨Nat.lt_of_lt_of_le h.lt ho.size, fun i hi => ?_⟩
  obtain ⟨s, hc, hs⟩ := h.nm i hi
  exact ⟨s, (World.cell?_of_block (w := w) hb).trans hc, hs⟩
theorem FS.fareIn {w0 w : World} {S : Nat → Option BK} {R K : Nat} {a : Option Addr} {len cap g n c : Nat} {xs : List Value} (h : FS w0 S R K a len cap g n c xs w) : FareIn w g n := by
  refine ⟨h.base.2, fun i hi => ?_⟩
  obtain ⟨s, hx, hs⟩ := h.lst i hi
  exact ⟨s, (h.row.cellAt (i * 3) (by omega)).trans hx, hs⟩
theorem NetIn.below {w w' : World} {g n B : Nat} (h : NetIn w g n) (hb : Below B w w') (hB : w.heap.size ≤ B) : NetIn w' g n := h.keep (hb.block g (Nat.lt_of_lt_of_le h.lt hB))
/-- n short texts in a row of their own. -/
def SR (w : World) (base : Nat) (v : Value) (n : Nat) : Prop := ∃ xs, w.ownsRow base 9 1 v n xs ∧ ∀ x, x ∈ xs → ∃ s : ByteArray, x = .string s ∧ s.size ≤ 10
theorem SR.go {w w' : World} {base n R : Nat} {v : Value} (h : SR w base v n) (ho : Only R w w') (hR : R < base) : SR w' base v n := by
  obtain ⟨xs, hr, hx⟩ := h
  exact ⟨xs, hr.kept ho (Or.inr (fun e => by have := (hr.lt _ e).1; omega)), hx⟩
theorem SR.none (w : World) (base : Nat) : SR w base (.slice none 0 0) 0 := ⟨[], ⟨rfl, Or.inl ⟨rfl, rfl⟩⟩, fun x h => by cases h⟩
theorem SR.below {w w' : World} {base n : Nat} {v : Value} (h : SR w base v n) (hb : Below w.heap.size w w') : SR w' base v n := by
  obtain ⟨xs, hr, hx⟩ := h
  refine ⟨xs, hr.kept (row := Option.none) ⟨hb.os, hb.tape, hb.output, hb.size, fun k hk _ => hb.block k hk⟩ ?_, hx⟩
  cases v.ownBlock <;> simp
theorem SR.alloc {w : World} {base n : Nat} {v : Value} (h : SR w base v n) (o : Obj) : SR (w.alloc o) base v n := h.below ((Below.refl _ _).alloc (Nat.le_refl _) o)
theorem SR.drew {w : World} {base n : Nat} {v : Value} (h : SR w base v n) : SR w.drew base v n := h.below ((Below.refl _ _).drew)
theorem SR.other {w : World} {base n g : Nat} {v : Value} {cur : Array Value} {t : TypeId} {fr : Nat × Nat} (h : SR w base v n) (hg : w.heap[g]? = some (.cells cur t fr)) (ht : t ≠ 9) : v.ownBlock ≠ some g := by
  obtain ⟨xs, hr, _⟩ := h
  intro e
  rcases hr.2 with ⟨rfl, _⟩ | ⟨g2, c2, cur2, rfl, _, hg2, _⟩
  · simp [Value.ownBlock] at e
  · simp [Value.ownBlock] at e
    subst e
    rw [hg] at hg2
    simp only [Option.some.injEq, Obj.cells.injEq] at hg2
    exact ht hg2.2.1
theorem SR.set {w : World} {base n : Nat} {v : Value} (h : SR w base v n) {B : Nat} (i : Nat) (u : Value) (hB : v.ownBlock ≠ some B) : SR (w.setCell ⟨B, i, Option.none⟩ u) base v n := by
  obtain ⟨xs, hr, hx⟩ := h
  refine ⟨xs, ⟨hr.1, ?_⟩, hx⟩
  rcases hr.2 with h | ⟨g, c, cur, rfl, h1, h2, h3⟩
  · exact Or.inl h
  · refine Or.inr ⟨g, c, cur, rfl, h1, ?_, h3⟩
    rw [blk_setCell_other _ _ _ _ (by simpa [Value.ownBlock] using hB)]
    exact h2
/-- The texts of such a row, as a function. -/
theorem SR.inS {w : World} {base n : Nat} {v : Value} (h : SR w base v n) : ∃ (a : Option Addr) (c : Nat) (F : Nat → ByteArray), v = .slice a n c ∧ n ≤ c ∧ c ≤ maxLen ∧ InS w a n F ∧ ∀ i, i < n → (F i).size ≤ 10 := by
  obtain ⟨xs, hr, hx⟩ := h
  have hl : xs.length = n := by have := hr.1; omega
  have hr' := hr
  rcases hr.2 with ⟨rfl, rfl⟩ | ⟨g, c, cur, rfl, hb, hg, hnc, hcm, hcs, htake⟩
  · exact ⟨Option.none, 0, fun _ => ⟨#[]⟩, rfl, Nat.le_refl _, by simp [maxLen], Or.inl rfl, fun i hi => by omega⟩
  · refine ⟨_, c, fun i => match xs[i]? with | some (.string s) => s | _ => ⟨#[]⟩, rfl, hnc, hcm, Or.inr ⟨g, 0, rfl, fun i hi => ?_, heap_lt hg⟩, fun i hi => ?_⟩
    · obtain ⟨s, e, _⟩ := hx xs[i] (List.getElem_mem (by omega))
      have e2 : xs[i]? = some (.string s) := by rw [List.getElem?_eq_getElem (by omega), e]
      rw [Nat.zero_add, hr'.cellAt i (by omega), e2]
    · obtain ⟨s, e, hs⟩ := hx xs[i] (List.getElem_mem (by omega))
      have e2 : xs[i]? = some (.string s) := by rw [List.getElem?_eq_getElem (by omega), e]
      simp only [e2]
      exact hs
/-- An append to a trip's legs, and its store. -/
theorem trip_push {w0 wE w4 : World} {R K X m g' c' : Nat} {a : Option Addr} {len cap : Nat} {cur : Array Value} {o : Obj} {xs : List Value} {s : ByteArray} {v : Value} {L : List (Nat × Obj)}
    (hd : DS w0 noS R K a len cap ((X, .cells cur 26 (0, 0)) :: L) wE) (hL : ∀ p, p ∈ L → p.1 ≠ X ∧ v.ownBlock ≠ some p.1)
    (hrow : wE.ownsRow w0.heap.size 9 1 v m xs) (hx : ∀ x, x ∈ xs → ∃ s : ByteArray, x = .string s ∧ s.size ≤ 10) (hz : s.size ≤ 10)
    (hown : w4.ownsRow w0.heap.size 9 1 (.slice (some ⟨g', 0, none⟩) (m + 1) c') (m + 1) (xs ++ [.string s]))
    (hgrow : (wE.alloc o).grownBy w4 v.ownBlock) :
    DS w0 noS R K a len cap ((X, .cells cur 26 (0, 0)) :: L) w4 ∧
    SR (w4.setCell ⟨X, 0, none⟩ (.slice (some ⟨g', 0, none⟩) (m + 1) c')) w0.heap.size (.slice (some ⟨g', 0, none⟩) (m + 1) c') (m + 1) ∧
    DS w0 noS R K a len cap ((X, .cells (cur.setIfInBounds 0 (.slice (some ⟨g', 0, none⟩) (m + 1) c')) 26 (0, 0)) :: L) (w4.setCell ⟨X, 0, none⟩ (.slice (some ⟨g', 0, none⟩) (m + 1) c')) := by
  have hir : SR wE w0.heap.size v m := ⟨xs, hrow, hx⟩
  obtain ⟨hX0, hXb, -⟩ := hd.loc _ (.head _)
  have hX0 : w0.heap.size ≤ X := hX0
  have hXg : v.ownBlock ≠ some X := hir.other hXb (by decide)
  have hd4 := (hd.alloc o).grow hgrow (fun q hq => by
    refine ⟨(hrow.lt q hq).1, rfl, fun p hp => ?_⟩
    rcases List.mem_cons.1 hp with rfl | hp
    · rintro rfl; exact hXg hq
    · rintro rfl; exact (hL p hp).2 hq)
  obtain ⟨-, hXb4, -⟩ := hd4.loc _ (.head _)
  have hi4 : SR w4 w0.heap.size (.slice (some ⟨g', 0, none⟩) (m + 1) c') (m + 1) := ⟨_, hown, fun x h => by
    rcases List.mem_append.1 h with h | h
    · exact hx x h
    · rw [List.mem_singleton] at h
      exact ⟨s, h, hz⟩⟩
  refine ⟨hd4, hi4.set 0 _ (hi4.other hXb4 (by decide)), ?_⟩
  have hs := hd4.set (L' := L) 0 (.slice (some ⟨g', 0, none⟩) (m + 1) c') hX0 rfl (fun p hp => ⟨.tail _ hp, (hL p hp).1⟩)
  exact hs.add hX0 (blk_set hXb4 0 _) rfl

/-- A trip's block, as it is made. -/
def tripZ : Obj := .cells #[.slice none 0 0, .string ⟨#[]⟩, .int .i64 0] 26 (0, 0)
/-- A trip that is being drawn: its block X, the result's block B, other blocks L, its legs' names v, and the net. -/
structure TS (w0 : World) (R K : Nat) (a : Option Addr) (len cap : Nat) (X : Nat) (L : List (Nat × Obj)) (v : Value) (m : Nat) (f : ByteArray) (s : Int) (gn n : Nat) (w : World) : Prop where
  ds : DS w0 noS R K a len cap ((X, .cells #[v, .string f, .int .i64 s] 26 (0, 0)) :: L) w
  sr : SR w w0.heap.size v m
  net : NetIn w gn n
  gl : gn < w0.heap.size ∧ gn ≠ R
  xl : ∀ p, p ∈ L → p.1 ≠ X ∧ v.ownBlock ≠ some p.1
  fs : f.size ≤ 10
section
variable {w0 w w' w4 : World} {R K K' X B m gn n : Nat} {a : Option Addr} {len cap : Nat} {L L' : List (Nat × Obj)} {v : Value} {f : ByteArray} {s : Int}
theorem TS.go (h : TS w0 R K a len cap X L v m f s gn n w) (hd : DS w0 noS R K' a len cap ((X, .cells #[v, .string f, .int .i64 s] 26 (0, 0)) :: L) w') (ho : Only R w w') : TS w0 R K' a len cap X L v m f s gn n w' :=
  ⟨hd, h.sr.go ho h.ds.lt, h.net.go ho h.gl.2, h.gl, h.xl, h.fs⟩
theorem TS.below (h : TS w0 R K a len cap X L v m f s gn n w) (hb : Below w.heap.size w w') : TS w0 R K a len cap X L v m f s gn n w' :=
  ⟨h.ds.below hb, h.sr.below hb, h.net.below hb (Nat.le_refl _), h.gl, h.xl, h.fs⟩
theorem TS.alloc (h : TS w0 R K a len cap X L v m f s gn n w) (o : Obj) : TS w0 R K a len cap X L v m f s gn n (w.alloc o) := h.below ((Below.refl _ _).alloc (Nat.le_refl _) o)
theorem TS.drew (h : TS w0 R K a len cap X L v m f s gn n w) : TS w0 R K a len cap X L v m f s gn n w.drew := h.below ((Below.refl _ _).drew)
theorem TS.mono (h : TS w0 R K a len cap X L v m f s gn n w) (hK : K ≤ K') : TS w0 R K' a len cap X L v m f s gn n w := ⟨h.ds.mono hK, h.sr, h.net, h.gl, h.xl, h.fs⟩
theorem TS.less (h : TS w0 R K a len cap X L v m f s gn n w) (hL : ∀ p, p ∈ L' → p ∈ L) : TS w0 R K a len cap X L' v m f s gn n w :=
  ⟨h.ds.less (fun p hp => by
    rcases List.mem_cons.1 hp with rfl | hp
    · exact .head _
    · exact .tail _ (hL p hp)), h.sr, h.net, h.gl, fun p hp => h.xl p (hL p hp), h.fs⟩
/-- The trip's block. -/
theorem TS.blk (h : TS w0 R K a len cap X L v m f s gn n w) : w.heap[X]? = some (.cells #[v, .string f, .int .i64 s] 26 (0, 0)) ∧ w0.heap.size ≤ X := by
  obtain ⟨h1, h2, -⟩ := h.ds.loc _ (.head _)
  exact ⟨h2, h1⟩
theorem TS.own (h : TS w0 R K a len cap X L v m f s gn n w) : v.ownBlock ≠ some X := h.sr.other h.blk.1 (by decide)
theorem NetIn.set {g n' : Nat} (h : NetIn w g n') {X : Nat} (hX : X ≠ g) (i : Nat) (u : Value) : NetIn (w.setCell ⟨X, i, none⟩ u) g n' :=
  h.keep (blk_setCell_other _ _ _ _ (by simp; omega))
/-- A field of the trip is stored. -/
theorem TS.setS (h : TS w0 R K a len cap X L v m f s gn n w) (s' : Int) : TS w0 R K a len cap X L v m f s' gn n (w.setCell ⟨X, 2, none⟩ (.int .i64 s')) := by
  obtain ⟨hb, hX⟩ := h.blk
  have hs := h.ds.set (L' := L) 2 (.int .i64 s') hX rfl (fun p hp => ⟨.tail _ hp, (h.xl p hp).1⟩)
  exact ⟨hs.add hX (blk_set hb 2 _) rfl, h.sr.set 2 _ h.own, h.net.set (by have := h.gl.1; omega) 2 _, h.gl, h.xl, h.fs⟩
theorem TS.setF (h : TS w0 R K a len cap X L v m f s gn n w) {f' : ByteArray} (hf : f'.size ≤ 10) : TS w0 R K a len cap X L v m f' s gn n (w.setCell ⟨X, 1, none⟩ (.string f')) := by
  obtain ⟨hb, hX⟩ := h.blk
  have hs := h.ds.set (L' := L) 1 (.string f') hX rfl (fun p hp => ⟨.tail _ hp, (h.xl p hp).1⟩)
  exact ⟨hs.add hX (blk_set hb 1 _) rfl, h.sr.set 1 _ h.own, h.net.set (by have := h.gl.1; omega) 1 _, h.gl, h.xl, hf⟩
/-- A leg's name is appended to the trip's. -/
theorem TS.push {g' c' : Nat} {o : Obj} {xs : List Value} {x : ByteArray} (h : TS w0 R K a len cap X L v m f s gn n w) (hx : ∀ x, x ∈ xs → ∃ s : ByteArray, x = .string s ∧ s.size ≤ 10) (hz : x.size ≤ 10)
    (hown : w4.ownsRow w0.heap.size 9 1 (.slice (some ⟨g', 0, none⟩) (m + 1) c') (m + 1) (xs ++ [.string x])) (hrow : w.ownsRow w0.heap.size 9 1 v m xs)
    (hgrow : (w.alloc o).grownBy w4 v.ownBlock) (hat : v.ownBlock = some g' ∨ g' = w.heap.size + 1) :
    TS w0 R K a len cap X L (.slice (some ⟨g', 0, none⟩) (m + 1) c') (m + 1) f s gn n (w4.setCell ⟨X, 0, none⟩ (.slice (some ⟨g', 0, none⟩) (m + 1) c')) ∧ DS w0 noS R K a len cap ((X, .cells #[v, .string f, .int .i64 s] 26 (0, 0)) :: L) w4 := by
  obtain ⟨k1, k2, k3⟩ := trip_push h.ds h.xl hrow hx hz hown hgrow
  obtain ⟨hb, hX⟩ := h.blk
  have hlt := fun p (hp : p ∈ L) => heap_lt (h.ds.loc p (.tail _ hp)).2.1
  refine ⟨⟨k3, k2, ?_, h.gl, fun p hp => ⟨(h.xl p hp).1, ?_⟩, h.fs⟩, k1⟩
  · refine NetIn.set (NetIn.keep h.net ?_) (by have := h.gl.1; omega) 0 _
    have hg : gn < (w.alloc o).heap.size := by have := h.net.lt; simp; omega
    refine (hgrow.block gn hg ?_).trans (blk_alloc_lt w o gn h.net.lt)
    intro e
    have := (hrow.lt gn e.symm).1
    have := h.gl.1
    omega
  · rcases hat with e | e
    · exact fun e2 => by
        simp [Value.ownBlock] at e2
        exact (h.xl p hp).2 (by rw [e, e2])
    · intro e2
      simp [Value.ownBlock] at e2
      have := hlt p hp
      omega
/-- The leg at a place of the net, cell by cell. -/
theorem NetIn.cells {g n' i : Nat} (h : NetIn w g n') (hi : i < n') : ∃ (nm fr tt : ByteArray) (dp ar cp : Int) (a6 : Option Addr) (n6 c6 : Nat) (a7 : Option Addr) (n7 c7 : Nat) (a8 : Option Addr) (n8 c8 : Nat) (a9 : Option Addr) (n9 c9 : Nat), nm.size ≤ 10 ∧
    w.cell? ⟨g, i * 10, none⟩ = some (.string nm) ∧ w.cell? ⟨g, i * 10 + 1, none⟩ = some (.string fr) ∧ w.cell? ⟨g, i * 10 + 2, none⟩ = some (.string tt) ∧ w.cell? ⟨g, i * 10 + 3, none⟩ = some (.int .i64 dp) ∧ w.cell? ⟨g, i * 10 + 4, none⟩ = some (.int .i64 ar) ∧ w.cell? ⟨g, i * 10 + 5, none⟩ = some (.int .i64 cp) ∧ w.cell? ⟨g, i * 10 + 6, none⟩ = some (.slice a6 n6 c6) ∧ w.cell? ⟨g, i * 10 + 7, none⟩ = some (.slice a7 n7 c7) ∧ w.cell? ⟨g, i * 10 + 8, none⟩ = some (.slice a8 n8 c8) ∧ w.cell? ⟨g, i * 10 + 9, none⟩ = some (.slice a9 n9 c9) := by
  obtain ⟨v, ⟨nm, fr, tt, dp, ar, cp, a6, n6, c6, a7, n7, c7, a8, n8, c8, a9, n9, c9, rfl, hs⟩, u0, u1, u2, u3, u4, u5, u6, u7, u8, u9, e, h0, h1, h2, h3, h4, h5, h6, h7, h8, h9⟩ := h.legs i hi
  simp only [Value.agg.injEq, Array.mk.injEq, List.cons.injEq, and_true] at e
  obtain ⟨rfl, rfl, rfl, rfl, rfl, rfl, rfl, rfl, rfl, rfl⟩ := e
  exact ⟨_, _, _, _, _, _, _, _, _, _, _, _, _, _, _, _, _, _, hs, h0, h1, h2, h3, h4, h5, h6, h7, h8, h9⟩
theorem trip_lay {u0 u1 u2 : Value} (v0 v1 v2 : Value) (h : DS w0 noS R K a len cap ((X, .cells #[u0, u1, u2] 26 (0, 0)) :: L) w) (hL : ∀ p, p ∈ L → p.1 ≠ X) :
    DS w0 noS R K a len cap ((X, .cells #[v0, v1, v2] 26 (0, 0)) :: L) (((w.setCell ⟨X, 0, none⟩ v0).setCell ⟨X, 1, none⟩ v1).setCell ⟨X, 2, none⟩ v2) := by
  obtain ⟨hX0, hXb, -⟩ := h.loc _ (.head _)
  have hl : ∀ p, p ∈ L → p ∈ L ∧ p.1 ≠ X := fun p hp => ⟨hp, hL p hp⟩
  have hs := (((h.less (L' := L) (fun p hp => .tail _ hp)).set 0 v0 hX0 rfl hl).set 1 v1 hX0 rfl hl).set 2 v2 hX0 rfl hl
  exact hs.add hX0 (blk_set (blk_set (blk_set hXb 0 v0) 1 v1) 2 v2) rfl
set_option maxHeartbeats 2000000 in
/-- A leg is laid over another, in a block of its own. -/
theorem TS.leg {Y : Nat} {u0 u1 u2 u3 u4 u5 u6 u7 u8 u9 : Value} (v0 v1 v2 v3 v4 v5 v6 v7 v8 v9 : Value) (h : TS w0 R K a len cap X ((Y, .cells #[u0, u1, u2, u3, u4, u5, u6, u7, u8, u9] 80 (0, 0)) :: L) v m f s gn n w) (hL : ∀ p, p ∈ L → p.1 ≠ Y) :
    TS w0 R K a len cap X ((Y, .cells #[v0, v1, v2, v3, v4, v5, v6, v7, v8, v9] 80 (0, 0)) :: L) v m f s gn n ((((((((((w.setCell ⟨Y, 0, none⟩ v0).setCell ⟨Y, 1, none⟩ v1).setCell ⟨Y, 2, none⟩ v2).setCell ⟨Y, 3, none⟩ v3).setCell ⟨Y, 4, none⟩ v4).setCell ⟨Y, 5, none⟩ v5).setCell ⟨Y, 6, none⟩ v6).setCell ⟨Y, 7, none⟩ v7).setCell ⟨Y, 8, none⟩ v8).setCell ⟨Y, 9, none⟩ v9) := by
  obtain ⟨hY0, hYb, -⟩ := h.ds.loc _ (.tail _ (.head _))
  have hYX : Y ≠ X := (h.xl _ (.head _)).1
  have hYo : v.ownBlock ≠ some Y := (h.xl _ (.head _)).2
  have hYg : Y ≠ gn := by
    have := h.gl.1
    have hY0 : w0.heap.size ≤ Y := hY0
    omega
  have hX0 := h.blk
  have hl : ∀ p, p ∈ (X, Obj.cells #[v, .string f, .int .i64 s] 26 (0, 0)) :: L → p ∈ (X, Obj.cells #[v, .string f, .int .i64 s] 26 (0, 0)) :: L ∧ p.1 ≠ Y := fun p hp => ⟨hp, by
    rcases List.mem_cons.1 hp with rfl | hp
    · exact fun e => hYX e.symm
    · exact hL p hp⟩
  have hd := (((((((((((h.ds.less (L' := (X, Obj.cells #[v, .string f, .int .i64 s] 26 (0, 0)) :: L) (fun p hp => by
    rcases List.mem_cons.1 hp with rfl | hp
    · exact .head _
    · exact .tail _ (.tail _ hp))).set 0 v0 hY0 rfl hl).set 1 v1 hY0 rfl hl).set 2 v2 hY0 rfl hl).set 3 v3 hY0 rfl hl).set 4 v4 hY0 rfl hl).set 5 v5 hY0 rfl hl).set 6 v6 hY0 rfl hl).set 7 v7 hY0 rfl hl).set 8 v8 hY0 rfl hl).set 9 v9 hY0 rfl hl)
  have b0 : (w.setCell ⟨Y, 0, none⟩ v0).heap[Y]? = some (.cells #[v0, u1, u2, u3, u4, u5, u6, u7, u8, u9] 80 (0, 0)) := blk_set hYb 0 v0
  have b1 : ((w.setCell ⟨Y, 0, none⟩ v0).setCell ⟨Y, 1, none⟩ v1).heap[Y]? = some (.cells #[v0, v1, u2, u3, u4, u5, u6, u7, u8, u9] 80 (0, 0)) := blk_set b0 1 v1
  have b2 : (((w.setCell ⟨Y, 0, none⟩ v0).setCell ⟨Y, 1, none⟩ v1).setCell ⟨Y, 2, none⟩ v2).heap[Y]? = some (.cells #[v0, v1, v2, u3, u4, u5, u6, u7, u8, u9] 80 (0, 0)) := blk_set b1 2 v2
  have b3 : ((((w.setCell ⟨Y, 0, none⟩ v0).setCell ⟨Y, 1, none⟩ v1).setCell ⟨Y, 2, none⟩ v2).setCell ⟨Y, 3, none⟩ v3).heap[Y]? = some (.cells #[v0, v1, v2, v3, u4, u5, u6, u7, u8, u9] 80 (0, 0)) := blk_set b2 3 v3
  have b4 : (((((w.setCell ⟨Y, 0, none⟩ v0).setCell ⟨Y, 1, none⟩ v1).setCell ⟨Y, 2, none⟩ v2).setCell ⟨Y, 3, none⟩ v3).setCell ⟨Y, 4, none⟩ v4).heap[Y]? = some (.cells #[v0, v1, v2, v3, v4, u5, u6, u7, u8, u9] 80 (0, 0)) := blk_set b3 4 v4
  have b5 : ((((((w.setCell ⟨Y, 0, none⟩ v0).setCell ⟨Y, 1, none⟩ v1).setCell ⟨Y, 2, none⟩ v2).setCell ⟨Y, 3, none⟩ v3).setCell ⟨Y, 4, none⟩ v4).setCell ⟨Y, 5, none⟩ v5).heap[Y]? = some (.cells #[v0, v1, v2, v3, v4, v5, u6, u7, u8, u9] 80 (0, 0)) := blk_set b4 5 v5
  have b6 : (((((((w.setCell ⟨Y, 0, none⟩ v0).setCell ⟨Y, 1, none⟩ v1).setCell ⟨Y, 2, none⟩ v2).setCell ⟨Y, 3, none⟩ v3).setCell ⟨Y, 4, none⟩ v4).setCell ⟨Y, 5, none⟩ v5).setCell ⟨Y, 6, none⟩ v6).heap[Y]? = some (.cells #[v0, v1, v2, v3, v4, v5, v6, u7, u8, u9] 80 (0, 0)) := blk_set b5 6 v6
  have b7 : ((((((((w.setCell ⟨Y, 0, none⟩ v0).setCell ⟨Y, 1, none⟩ v1).setCell ⟨Y, 2, none⟩ v2).setCell ⟨Y, 3, none⟩ v3).setCell ⟨Y, 4, none⟩ v4).setCell ⟨Y, 5, none⟩ v5).setCell ⟨Y, 6, none⟩ v6).setCell ⟨Y, 7, none⟩ v7).heap[Y]? = some (.cells #[v0, v1, v2, v3, v4, v5, v6, v7, u8, u9] 80 (0, 0)) := blk_set b6 7 v7
  have b8 : (((((((((w.setCell ⟨Y, 0, none⟩ v0).setCell ⟨Y, 1, none⟩ v1).setCell ⟨Y, 2, none⟩ v2).setCell ⟨Y, 3, none⟩ v3).setCell ⟨Y, 4, none⟩ v4).setCell ⟨Y, 5, none⟩ v5).setCell ⟨Y, 6, none⟩ v6).setCell ⟨Y, 7, none⟩ v7).setCell ⟨Y, 8, none⟩ v8).heap[Y]? = some (.cells #[v0, v1, v2, v3, v4, v5, v6, v7, v8, u9] 80 (0, 0)) := blk_set b7 8 v8
  have b9 : ((((((((((w.setCell ⟨Y, 0, none⟩ v0).setCell ⟨Y, 1, none⟩ v1).setCell ⟨Y, 2, none⟩ v2).setCell ⟨Y, 3, none⟩ v3).setCell ⟨Y, 4, none⟩ v4).setCell ⟨Y, 5, none⟩ v5).setCell ⟨Y, 6, none⟩ v6).setCell ⟨Y, 7, none⟩ v7).setCell ⟨Y, 8, none⟩ v8).setCell ⟨Y, 9, none⟩ v9).heap[Y]? = some (.cells #[v0, v1, v2, v3, v4, v5, v6, v7, v8, v9] 80 (0, 0)) := blk_set b8 9 v9
  have hd2 := hd.add hY0 b9 rfl
  refine ⟨hd2.less (fun p hp => ?_), ?_, ?_, h.gl, fun p hp => ?_, h.fs⟩
  · rcases List.mem_cons.1 hp with rfl | hp
    · exact .tail _ (.head _)
    · rcases List.mem_cons.1 hp with rfl | hp
      · exact .head _
      · exact .tail _ (.tail _ hp)
  · exact (((((((((h.sr.set 0 v0 hYo).set 1 v1 hYo).set 2 v2 hYo).set 3 v3 hYo).set 4 v4 hYo).set 5 v5 hYo).set 6 v6 hYo).set 7 v7 hYo).set 8 v8 hYo).set 9 v9 hYo
  · exact (((((((((h.net.set hYg 0 v0).set hYg 1 v1).set hYg 2 v2).set hYg 3 v3).set hYg 4 v4).set hYg 5 v5).set hYg 6 v6).set hYg 7 v7).set hYg 8 v8).set hYg 9 v9
  · rcases List.mem_cons.1 hp with rfl | hp
    · exact ⟨hYX, hYo⟩
    · exact h.xl p (.tail _ hp)
/-- A leg's block is made. -/
theorem TS.box (h : TS w0 R K a len cap X L v m f s gn n w) (vs : Array Value) (t : TypeId) : TS w0 R K a len cap X ((w.heap.size, .cells vs t (0, 0)) :: L) v m f s gn n (w.alloc (.cells vs t)) := by
  have hb := h.ds.box vs t
  have hX := heap_lt h.blk.1
  refine ⟨hb.less (fun p hp => ?_), h.sr.alloc _, (h.alloc _).net, h.gl, fun p hp => ?_, h.fs⟩
  · rcases List.mem_cons.1 hp with rfl | hp
    · exact .tail _ (.head _)
    · rcases List.mem_cons.1 hp with rfl | hp
      · exact .head _
      · exact .tail _ (.tail _ hp)
  · rcases List.mem_cons.1 hp with rfl | hp
    · refine ⟨by show w.heap.size ≠ X; omega, fun e => ?_⟩
      obtain ⟨xs, hr, _⟩ := h.sr
      have := (hr.lt _ e).2
      simp at this
    · exact h.xl p hp
end

/-- Whether a leg can be taken behind another one. -/
def nextB (tt fr : ByteArray) (ar dp : Int) : Bool := decide (tt = fr) && decide (ar < dp)
set_option maxRecDepth 100000 in
set_option maxHeartbeats 2000000 in
theorem l8Next_any (n1 f1 t1 n2 f2 t2 : ByteArray) (d1 a1 c1 d2 a2 c2 : Int) (b1 : Option Addr) (b2 b3 : Nat) (b4 : Option Addr) (b5 b6 : Nat) (b7 : Option Addr) (b8 b9 : Nat) (e1 : Option Addr) (e2 e3 : Nat) (g1 : Option Addr) (g2 g3 : Nat) (g4 : Option Addr) (g5 g6 : Nat) (g7 : Option Addr) (g8 g9 : Nat) (h1 : Option Addr) (h2 h3 : Nat) (w : World) :
    Calls Tryz.prog 55 #[.agg #[.string n1, .string f1, .string t1, .int .i64 d1, .int .i64 a1, .int .i64 c1, .slice b1 b2 b3, .slice b4 b5 b6, .slice b7 b8 b9, .slice e1 e2 e3], .agg #[.string n2, .string f2, .string t2, .int .i64 d2, .int .i64 a2, .int .i64 c2, .slice g1 g2 g3, .slice g4 g5 g6, .slice g7 g8 g9, .slice h1 h2 h3]] w fun e w' => e = .returned (.bool (nextB t1 f2 a1 d2)) ∧ Below w.heap.size w w' := by
  have HB := Lib.hid (((Below.refl w.heap.size w).alloc (Nat.le_refl _) (.cells #[.string n1, .string f1, .string t1, .int .i64 d1, .int .i64 a1, .int .i64 c1, .slice b1 b2 b3, .slice b4 b5 b6, .slice b7 b8 b9, .slice e1 e2 e3] 80)).alloc (by simp) (.cells #[.string n2, .string f2, .string t2, .int .i64 d2, .int .i64 a2, .int .i64 c2, .slice g1 g2 g3, .slice g4 g5 g6, .slice g7 g8 g9, .slice h1 h2 h3] 80))
  go_enter Tryz.func55, Tryz.ntmps55
  by_cases ht : t1 = f2
  · subst ht
    by_cases ha : a1 < d2
    · go_wp2_with fail
      go_ret
      exact ⟨by simp [nextB, ha], HB.out⟩
    · go_wp2_with fail
      go_ret
      exact ⟨by simp [nextB, ha], HB.out⟩
  · have ht2 : ¬ t1.toList = f2.toList := by
      intro e
      rw [Lib.toList_data, Lib.toList_data] at e
      exact ht (ByteArray.ext (Array.toList_inj.1 e))
    go_wp2_with fail
    go_ret
    exact ⟨by simp [nextB, ht], HB.out⟩

end My
end Go.Proofs.YtjmlekhgnbbjoaaGreatDoor
