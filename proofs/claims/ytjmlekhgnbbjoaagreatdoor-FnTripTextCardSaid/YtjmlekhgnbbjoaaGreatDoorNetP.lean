/- Nets in memory. -/
import Derived.Test.YtjmlekhgnbbjoaaGreatDoorLegP
import Derived.OneCell
import Derived.Deep.CutRange
namespace Go.Proofs.YtjmlekhgnbbjoaaGreatDoor
open Go.RowKit Go.Deep
set_option linter.unusedVariables false
namespace My

theorem infoLeg : (Tryz.prog.info? 80).map (fun i => (i.zero, i.size, i.bytes)) = some (some (.agg #[.string ⟨#[]⟩, .string ⟨#[]⟩, .string ⟨#[]⟩, .int .i64 0, .int .i64 0, .int .i64 0, .slice none 0 0, .slice none 0 0, .slice none 0 0, .slice none 0 0]), 10, 168) := by kernel_rfl
theorem LegOK.kept {w w' : World} {base : Nat} {D : Int} {hv v : Value} {o : Option Nat} (h : LegOK w base D hv v) (hg : w.grownBy w' o) (hne : ∀ g, o = some g → ∃ cur t fr, w.heap[g]? = some (.cells cur t fr) ∧ t ≠ 3) : LegOK w' base D hv v := by
  obtain ⟨nm, fr, tt, dp, ar, cp, vl, vs, vb, nb, rfl, hs, hd, ha, hc, hl, hss, hnb, hb⟩ := h
  have hk : ∀ u n, IR w base u n → IR w' base u n := fun u n hu => hu.kept hg (fun g hgg => by
    obtain ⟨cur, t, fr, h1, h2⟩ := hne g hgg
    exact hu.other h1 h2)
  exact ⟨nm, fr, tt, dp, ar, cp, vl, vs, vb, nb, rfl, hs, hd, ha, hc, hk _ _ hl, hk _ _ hss, hnb, hk _ _ hb⟩
theorem LegOK.go {w w' : World} {base R : Nat} {D : Int} {hv v : Value} (h : LegOK w base D hv v) (ho : Only R w w') (hR : R < base) : LegOK w' base D hv v := by
  obtain ⟨nm, fr, tt, dp, ar, cp, vl, vs, vb, nb, rfl, hs, hd, ha, hc, hl, hss, hnb, hb⟩ := h
  exact ⟨nm, fr, tt, dp, ar, cp, vl, vs, vb, nb, rfl, hs, hd, ha, hc, hl.go ho hR, hss.go ho hR, hnb, hb.go ho hR⟩
theorem LegOK.mono {w : World} {base base' : Nat} {D D' : Int} {hv v : Value} (h : LegOK w base D hv v) (hb : base' ≤ base) (hD : D ≤ D') : LegOK w base' D' hv v := by
  obtain ⟨nm, fr, tt, dp, ar, cp, vl, vs, vb, nb, rfl, hs, hd, ha, hc, hl, hss, hnb, hbb⟩ := h
  have hk : ∀ u n, IR w base u n → IR w base' u n := fun u n ⟨xs, hr, hx⟩ => ⟨xs, ⟨hr.1, hr.2.imp id (fun ⟨g, c, cur, h1, h2, h3⟩ => ⟨g, c, cur, h1, Nat.le_trans hb h2, h3⟩)⟩, hx⟩
  exact ⟨nm, fr, tt, dp, ar, cp, vl, vs, vb, nb, rfl, hs, by omega, by omega, hc, hk _ _ hl, hk _ _ hss, hnb, hk _ _ hbb⟩
/-- The ten cells of a leg in a list. -/
def legAt (xs : List Value) (i : Nat) : Value := .agg #[xs.getD (i * 10) undef, xs.getD (i * 10 + 1) undef, xs.getD (i * 10 + 2) undef, xs.getD (i * 10 + 3) undef, xs.getD (i * 10 + 4) undef, xs.getD (i * 10 + 5) undef, xs.getD (i * 10 + 6) undef, xs.getD (i * 10 + 7) undef, xs.getD (i * 10 + 8) undef, xs.getD (i * 10 + 9) undef]
def LegL (w : World) (base : Nat) (n : Nat) (xs : List Value) : Prop := ∀ i, i < n → LegOK w base 10000 (.slice none 0 0) (legAt xs i)
theorem legAt_left {xs ys : List Value} {i n : Nat} (hl : xs.length = n * 10) (hi : i < n) : legAt (xs ++ ys) i = legAt xs i := by
  simp only [legAt, List.getD_eq_getElem?_getD]
  rw [List.getElem?_append_left (by omega), List.getElem?_append_left (by omega), List.getElem?_append_left (by omega), List.getElem?_append_left (by omega), List.getElem?_append_left (by omega), List.getElem?_append_left (by omega), List.getElem?_append_left (by omega), List.getElem?_append_left (by omega), List.getElem?_append_left (by omega), List.getElem?_append_left (by omega)]
theorem legAt_last {xs : List Value} {n : Nat} {a b c d e f g h i j : Value} (hl : xs.length = n * 10) : legAt (xs ++ [a, b, c, d, e, f, g, h, i, j]) n = .agg #[a, b, c, d, e, f, g, h, i, j] := by
  simp only [legAt, List.getD_eq_getElem?_getD]
  rw [List.getElem?_append_right (by omega), List.getElem?_append_right (by omega), List.getElem?_append_right (by omega), List.getElem?_append_right (by omega), List.getElem?_append_right (by omega), List.getElem?_append_right (by omega), List.getElem?_append_right (by omega), List.getElem?_append_right (by omega), List.getElem?_append_right (by omega), List.getElem?_append_right (by omega)]
  rw [show n * 10 - xs.length = 0 from by omega, show n * 10 + 1 - xs.length = 1 from by omega, show n * 10 + 2 - xs.length = 2 from by omega, show n * 10 + 3 - xs.length = 3 from by omega, show n * 10 + 4 - xs.length = 4 from by omega, show n * 10 + 5 - xs.length = 5 from by omega, show n * 10 + 6 - xs.length = 6 from by omega, show n * 10 + 7 - xs.length = 7 from by omega, show n * 10 + 8 - xs.length = 8 from by omega, show n * 10 + 9 - xs.length = 9 from by omega]
  rfl
theorem news_10 (w : World) (a b c d e f g h i j : Value) (t : TypeId) : ∀ k x, [a, b, c, d, e, f, g, h, i, j][k]? = some x → (w.alloc (.cells #[a, b, c, d, e, f, g, h, i, j] t)).cell? (Addr.add ⟨w.heap.size, 0, none⟩ k) = some x :=
  World.news_of_block (blk_alloc_new w (.cells #[a, b, c, d, e, f, g, h, i, j] t))
/-- n legs in an own row, and the state. -/
structure NS (w0 : World) (R K : Nat) (a : Option Addr) (len cap : Nat) (g n c : Nat) (xs : List Value) (L : List (Nat × Obj)) (w : World) : Prop where
  ds : DS w0 noS R K a len cap L w
  row : w.ownsRow w0.heap.size 80 10 (.slice (some ⟨g, 0, none⟩) n c) n xs
  lst : LegL w w0.heap.size n xs
section
variable {w0 w w' w4 : World} {R K K' : Nat} {a : Option Addr} {len cap : Nat} {g n c g' c' : Nat} {xs : List Value} {L L' : List (Nat × Obj)}
theorem NS.base (h : NS w0 R K a len cap g n c xs L w) : w0.heap.size ≤ g ∧ g < w.heap.size := h.row.lt g rfl
theorem NS.go (h : NS w0 R K a len cap g n c xs L w) (hd : DS w0 noS R K' a len cap L' w') (ho : Only R w w') : NS w0 R K' a len cap g n c xs L' w' := by
  have hb := h.base
  have hlt := h.ds.lt
  exact ⟨hd, h.row.kept ho (Or.inr (by simp [Value.ownBlock]; omega)), fun i hi => (h.lst i hi).go ho hlt⟩
theorem NS.alloc (h : NS w0 R K a len cap g n c xs L w) (o : Obj) : NS w0 R K a len cap g n c xs L (w.alloc o) := h.go (h.ds.alloc o) ((Only.refl R w).alloc o)
theorem NS.less (h : NS w0 R K a len cap g n c xs L w) (hL : ∀ p, p ∈ L' → p ∈ L) : NS w0 R K a len cap g n c xs L' w := ⟨h.ds.less hL, h.row, h.lst⟩
theorem NS.mono (h : NS w0 R K a len cap g n c xs L w) (hK : K ≤ K') : NS w0 R K' a len cap g n c xs L w := ⟨h.ds.mono hK, h.row, h.lst⟩
theorem NS.push (h : NS w0 R K a len cap g n c xs L w) {v0 v1 v2 v3 v4 v5 v6 v7 v8 v9 : Value} {o : Obj} (hL : ∀ p, p ∈ L → p.1 ≠ g) (hv : LegOK w w0.heap.size 10000 (.slice none 0 0) (.agg #[v0, v1, v2, v3, v4, v5, v6, v7, v8, v9]))
    (hown : w4.ownsRow w0.heap.size 80 10 (.slice (some ⟨g', 0, none⟩) (n + 1) c') (n + 1) (xs ++ [v0, v1, v2, v3, v4, v5, v6, v7, v8, v9]))
    (hgrow : (w.alloc o).grownBy w4 (Value.ownBlock (.slice (some ⟨g, 0, none⟩) n c))) :
    NS w0 R K a len cap g' (n + 1) c' (xs ++ [v0, v1, v2, v3, v4, v5, v6, v7, v8, v9]) L w4 := by
  have hb := h.base
  have hxl : xs.length = n * 10 := h.row.1
  have hblk : ∃ cur t fr, (w.alloc o).heap[g]? = some (.cells cur t fr) ∧ t ≠ 3 := by
    rcases h.row.2 with ⟨h', _⟩ | ⟨g2, c2, cur, h', _, hg, _⟩
    · simp at h'
    · simp only [Value.slice.injEq, Option.some.injEq, Addr.mk.injEq, and_true, true_and] at h'
      obtain ⟨rfl, rfl⟩ := h'
      exact ⟨cur, _, _, (blk_alloc_lt w o g hb.2).trans hg, by decide⟩
  have hk : ∀ v, LegOK w w0.heap.size 10000 (.slice none 0 0) v → LegOK w4 w0.heap.size 10000 (.slice none 0 0) v := fun v hv =>
    (hv.kept (World.grownBy_alloc w o none) (fun g hg => by cases hg)).kept hgrow (fun q hq => by
      simp [Value.ownBlock] at hq
      subst hq
      exact hblk)
  refine ⟨(h.ds.alloc o).grow hgrow (fun q hq => ?_), hown, fun i hi => ?_⟩
  · simp [Value.ownBlock] at hq
    subst hq
    exact ⟨hb.1, rfl, hL⟩
  · by_cases e : i = n
    · subst e
      rw [legAt_last hxl]
      exact hk _ hv
    · rw [legAt_left hxl (by omega)]
      exact hk _ (h.lst i (by omega))
end

theorem keep_blk {R H : Nat} {wz w' : World} {o : Obj} (hon : Only R wz w') (hb : wz.heap[H]? = some o) (hne : H ≠ R) : ∃ _u : Unit, w'.heap[H]? = some o :=
  ⟨(), (hon.block H (heap_lt hb) (by simp; omega)).trans hb⟩
theorem LegOK.set {w : World} {base X i : Nat} {D : Int} {hv v u : Value} {cur : Array Value} {fr : Nat × Nat} (h : LegOK w base D hv v) (hb : w.heap[X]? = some (.cells cur 80 fr)) : LegOK (w.setCell ⟨X, i, none⟩ u) base D hv v := by
  obtain ⟨nm, fr', tt, dp, ar, cp, vl, vs, vb, nb, rfl, hs, hd, ha, hc, hl, hss, hnb, hbb⟩ := h
  exact ⟨nm, fr', tt, dp, ar, cp, vl, vs, vb, nb, rfl, hs, hd, ha, hc, hl.set i u (hl.other hb (by decide)), hss.set i u (hss.other hb (by decide)), hnb, hbb.set i u (hbb.other hb (by decide))⟩
theorem NS.set1 {w0 w : World} {R K : Nat} {a : Option Addr} {len cap g n c X : Nat} {xs : List Value} {L : List (Nat × Obj)} {cur : Array Value} (h : NS w0 R K a len cap g n c xs L w) (hX : w0.heap.size ≤ X) (hXg : X ≠ g) (hL : ∀ p, p ∈ L → p.1 ≠ X)
    (hb : w.heap[X]? = some (.cells cur 80 (0, 0))) (i : Nat) (u : Value) : NS w0 R K a len cap g n c xs L (w.setCell ⟨X, i, none⟩ u) :=
  ⟨h.ds.set i u hX rfl (fun p hp => ⟨hp, hL p hp⟩), ownsRow_setCell_other h.row (by simp [Value.ownBlock]; omega) u, fun j hj => (h.lst j hj).set hb⟩
/-- A leg is laid into a block. -/
theorem NS.lay {w0 w : World} {R K : Nat} {a : Option Addr} {len cap g n c X : Nat} {xs : List Value} {L : List (Nat × Obj)} {u0 u1 u2 u3 u4 u5 u6 u7 u8 u9 : Value} (v0 v1 v2 v3 v4 v5 v6 v7 v8 v9 : Value) (h : NS w0 R K a len cap g n c xs L w) (hX : w0.heap.size ≤ X) (hXg : X ≠ g) (hL : ∀ p, p ∈ L → p.1 ≠ X)
    (hb : w.heap[X]? = some (.cells #[u0, u1, u2, u3, u4, u5, u6, u7, u8, u9] 80 (0, 0))) :
    NS w0 R K a len cap g n c xs ((X, .cells #[v0, v1, v2, v3, v4, v5, v6, v7, v8, v9] 80 (0, 0)) :: L) ((((((((((w.setCell ⟨X, 0, none⟩ v0).setCell ⟨X, 1, none⟩ v1).setCell ⟨X, 2, none⟩ v2).setCell ⟨X, 3, none⟩ v3).setCell ⟨X, 4, none⟩ v4).setCell ⟨X, 5, none⟩ v5).setCell ⟨X, 6, none⟩ v6).setCell ⟨X, 7, none⟩ v7).setCell ⟨X, 8, none⟩ v8).setCell ⟨X, 9, none⟩ v9) ∧
    ∀ base D hv v, LegOK w base D hv v → LegOK ((((((((((w.setCell ⟨X, 0, none⟩ v0).setCell ⟨X, 1, none⟩ v1).setCell ⟨X, 2, none⟩ v2).setCell ⟨X, 3, none⟩ v3).setCell ⟨X, 4, none⟩ v4).setCell ⟨X, 5, none⟩ v5).setCell ⟨X, 6, none⟩ v6).setCell ⟨X, 7, none⟩ v7).setCell ⟨X, 8, none⟩ v8).setCell ⟨X, 9, none⟩ v9) base D hv v := by
  have b0 : (w.setCell ⟨X, 0, none⟩ v0).heap[X]? = some (.cells #[v0, u1, u2, u3, u4, u5, u6, u7, u8, u9] 80 (0, 0)) := blk_set hb 0 v0
  have n0 := h.set1 hX hXg hL hb 0 v0
  have b1 : ((w.setCell ⟨X, 0, none⟩ v0).setCell ⟨X, 1, none⟩ v1).heap[X]? = some (.cells #[v0, v1, u2, u3, u4, u5, u6, u7, u8, u9] 80 (0, 0)) := blk_set b0 1 v1
  have n1 := n0.set1 hX hXg hL b0 1 v1
  have b2 : (((w.setCell ⟨X, 0, none⟩ v0).setCell ⟨X, 1, none⟩ v1).setCell ⟨X, 2, none⟩ v2).heap[X]? = some (.cells #[v0, v1, v2, u3, u4, u5, u6, u7, u8, u9] 80 (0, 0)) := blk_set b1 2 v2
  have n2 := n1.set1 hX hXg hL b1 2 v2
  have b3 : ((((w.setCell ⟨X, 0, none⟩ v0).setCell ⟨X, 1, none⟩ v1).setCell ⟨X, 2, none⟩ v2).setCell ⟨X, 3, none⟩ v3).heap[X]? = some (.cells #[v0, v1, v2, v3, u4, u5, u6, u7, u8, u9] 80 (0, 0)) := blk_set b2 3 v3
  have n3 := n2.set1 hX hXg hL b2 3 v3
  have b4 : (((((w.setCell ⟨X, 0, none⟩ v0).setCell ⟨X, 1, none⟩ v1).setCell ⟨X, 2, none⟩ v2).setCell ⟨X, 3, none⟩ v3).setCell ⟨X, 4, none⟩ v4).heap[X]? = some (.cells #[v0, v1, v2, v3, v4, u5, u6, u7, u8, u9] 80 (0, 0)) := blk_set b3 4 v4
  have n4 := n3.set1 hX hXg hL b3 4 v4
  have b5 : ((((((w.setCell ⟨X, 0, none⟩ v0).setCell ⟨X, 1, none⟩ v1).setCell ⟨X, 2, none⟩ v2).setCell ⟨X, 3, none⟩ v3).setCell ⟨X, 4, none⟩ v4).setCell ⟨X, 5, none⟩ v5).heap[X]? = some (.cells #[v0, v1, v2, v3, v4, v5, u6, u7, u8, u9] 80 (0, 0)) := blk_set b4 5 v5
  have n5 := n4.set1 hX hXg hL b4 5 v5
  have b6 : (((((((w.setCell ⟨X, 0, none⟩ v0).setCell ⟨X, 1, none⟩ v1).setCell ⟨X, 2, none⟩ v2).setCell ⟨X, 3, none⟩ v3).setCell ⟨X, 4, none⟩ v4).setCell ⟨X, 5, none⟩ v5).setCell ⟨X, 6, none⟩ v6).heap[X]? = some (.cells #[v0, v1, v2, v3, v4, v5, v6, u7, u8, u9] 80 (0, 0)) := blk_set b5 6 v6
  have n6 := n5.set1 hX hXg hL b5 6 v6
  have b7 : ((((((((w.setCell ⟨X, 0, none⟩ v0).setCell ⟨X, 1, none⟩ v1).setCell ⟨X, 2, none⟩ v2).setCell ⟨X, 3, none⟩ v3).setCell ⟨X, 4, none⟩ v4).setCell ⟨X, 5, none⟩ v5).setCell ⟨X, 6, none⟩ v6).setCell ⟨X, 7, none⟩ v7).heap[X]? = some (.cells #[v0, v1, v2, v3, v4, v5, v6, v7, u8, u9] 80 (0, 0)) := blk_set b6 7 v7
  have n7 := n6.set1 hX hXg hL b6 7 v7
  have b8 : (((((((((w.setCell ⟨X, 0, none⟩ v0).setCell ⟨X, 1, none⟩ v1).setCell ⟨X, 2, none⟩ v2).setCell ⟨X, 3, none⟩ v3).setCell ⟨X, 4, none⟩ v4).setCell ⟨X, 5, none⟩ v5).setCell ⟨X, 6, none⟩ v6).setCell ⟨X, 7, none⟩ v7).setCell ⟨X, 8, none⟩ v8).heap[X]? = some (.cells #[v0, v1, v2, v3, v4, v5, v6, v7, v8, u9] 80 (0, 0)) := blk_set b7 8 v8
  have n8 := n7.set1 hX hXg hL b7 8 v8
  have b9 : ((((((((((w.setCell ⟨X, 0, none⟩ v0).setCell ⟨X, 1, none⟩ v1).setCell ⟨X, 2, none⟩ v2).setCell ⟨X, 3, none⟩ v3).setCell ⟨X, 4, none⟩ v4).setCell ⟨X, 5, none⟩ v5).setCell ⟨X, 6, none⟩ v6).setCell ⟨X, 7, none⟩ v7).setCell ⟨X, 8, none⟩ v8).setCell ⟨X, 9, none⟩ v9).heap[X]? = some (.cells #[v0, v1, v2, v3, v4, v5, v6, v7, v8, v9] 80 (0, 0)) := blk_set b8 9 v9
  have n9 := n8.set1 hX hXg hL b8 9 v9
  refine ⟨⟨n9.ds.add hX b9 rfl, n9.row, n9.lst⟩, fun base D hv v hl => ?_⟩
  exact (((((((((hl.set hb).set b0).set b1).set b2).set b3).set b4).set b5).set b6).set b7).set b8

/-- The rows of texts that l14Net begins with. -/
def netP : Obj := .cells #[.string ⟨#[97, 109, 115]⟩, .string ⟨#[98, 114, 117]⟩, .string ⟨#[99, 100, 103]⟩, .string ⟨#[100, 117, 98]⟩] 9 (0, 0)
def netN : Obj := .cells #[.string ⟨#[108, 97]⟩, .string ⟨#[108, 98]⟩, .string ⟨#[108, 99]⟩, .string ⟨#[108, 100]⟩, .string ⟨#[108, 101]⟩, .string ⟨#[108, 102]⟩] 9 (0, 0)
theorem netP_sel {x : Int} (h0 : 0 ≤ x) (h1 : x ≤ 3) : ∃ s : ByteArray, s.size ≤ 10 ∧ ∀ (w' : World) (P : Nat), w'.heap[P]? = some netP → w'.cell? ⟨P, x.toNat, none⟩ = some (.string s) := by
  have : x = 0 ∨ x = 1 ∨ x = 2 ∨ x = 3 := by omega
  rcases this with rfl | rfl | rfl | rfl
  · exact ⟨⟨#[97, 109, 115]⟩, by decide, fun w' P h => by simp only [World.cell?, h]; rfl⟩
  · exact ⟨⟨#[98, 114, 117]⟩, by decide, fun w' P h => by simp only [World.cell?, h]; rfl⟩
  · exact ⟨⟨#[99, 100, 103]⟩, by decide, fun w' P h => by simp only [World.cell?, h]; rfl⟩
  · exact ⟨⟨#[100, 117, 98]⟩, by decide, fun w' P h => by simp only [World.cell?, h]; rfl⟩
theorem netN_sel {k : Nat} (h1 : k ≤ 5) : ∃ s : ByteArray, s.size ≤ 10 ∧ ∀ (w' : World) (P : Nat), w'.heap[P]? = some netN → w'.cell? ⟨P, k, none⟩ = some (.string s) := by
  have : k = 0 ∨ k = 1 ∨ k = 2 ∨ k = 3 ∨ k = 4 ∨ k = 5 := by omega
  rcases this with rfl | rfl | rfl | rfl | rfl | rfl
  · exact ⟨⟨#[108, 97]⟩, by decide, fun w' P h => by simp only [World.cell?, h]; rfl⟩
  · exact ⟨⟨#[108, 98]⟩, by decide, fun w' P h => by simp only [World.cell?, h]; rfl⟩
  · exact ⟨⟨#[108, 99]⟩, by decide, fun w' P h => by simp only [World.cell?, h]; rfl⟩
  · exact ⟨⟨#[108, 100]⟩, by decide, fun w' P h => by simp only [World.cell?, h]; rfl⟩
  · exact ⟨⟨#[108, 101]⟩, by decide, fun w' P h => by simp only [World.cell?, h]; rfl⟩
  · exact ⟨⟨#[108, 102]⟩, by decide, fun w' P h => by simp only [World.cell?, h]; rfl⟩

section
variable {w0 w w' w4 : World} {R K K' : Nat} {a : Option Addr} {len cap : Nat} {g n c g' c' : Nat} {xs : List Value} {L L' : List (Nat × Obj)}
theorem NS.drew (h : NS w0 R K a len cap g n c xs L w) : NS w0 R K a len cap g n c xs L w.drew := h.go h.ds.drew ((Only.refl R w).drew)
theorem NS.call (h : NS w0 R K a len cap g n c xs L w) (k : DS w noS R K' a len cap [] w') : NS w0 R K' a len cap g n c xs L w' := h.go (h.ds.call k (More.refl _ _)) k.on
theorem NS.box (h : NS w0 R K a len cap g n c xs L w) (vs : Array Value) (t : TypeId) : NS w0 R K a len cap g n c xs ((w.heap.size, .cells vs t (0, 0)) :: L) (w.alloc (.cells vs t)) := ⟨h.ds.box vs t, (h.alloc _).row, (h.alloc _).lst⟩
end
theorem LegOK.alloc {w : World} {base : Nat} {D : Int} {hv v : Value} (h : LegOK w base D hv v) (o : Obj) : LegOK (w.alloc o) base D hv v :=
  h.kept (World.grownBy_alloc w o none) (fun g hg => by cases hg)

end My
end Go.Proofs.YtjmlekhgnbbjoaaGreatDoor
