/- A net that lies in memory, to be read. -/
import Derived.Test.YtjmlekhgnbbjoaaGreatDoorNetP
import Derived.Test.YtjmlekhgnbbjoaaGreatDoorLegC
namespace Go.Proofs.YtjmlekhgnbbjoaaGreatDoor
open Go.RowKit Go.Deep
set_option linter.unusedVariables false
namespace My

/-- A leg of whatever rows. -/
def LegN (v : Value) : Prop := ∃ (nm fr tt : ByteArray) (dp ar cp : Int) (a6 : Option Addr) (n6 c6 : Nat) (a7 : Option Addr) (n7 c7 : Nat) (a8 : Option Addr) (n8 c8 : Nat) (a9 : Option Addr) (n9 c9 : Nat), v = .agg #[.string nm, .string fr, .string tt, .int .i64 dp, .int .i64 ar, .int .i64 cp, .slice a6 n6 c6, .slice a7 n7 c7, .slice a8 n8 c8, .slice a9 n9 c9] ∧ nm.size ≤ 10
theorem LegOK.weakN {w : World} {base : Nat} {D : Int} {v : Value} {ah : Option Addr} {nh ch : Nat} (h : LegOK w base D (.slice ah nh ch) v) : LegN v := by
  obtain ⟨nm, fr, tt, dp, ar, cp, vl, vs, vb, nb, rfl, hs, hd, ha, hc, hl, hss, hnb, hb⟩ := h
  obtain ⟨g1, c1, rfl, -⟩ := hl.form (by omega)
  obtain ⟨g2, c2, rfl, -⟩ := hss.form (by omega)
  obtain ⟨g3, c3, rfl, -⟩ := hb.form (by omega)
  exact ⟨nm, fr, tt, dp, ar, cp, _, _, _, _, _, _, _, _, _, _, _, _, rfl, hs.1⟩
/-- Ten cells hold a leg. -/
def LegC (w : World) (g o : Nat) (v : Value) : Prop := ∃ u0 u1 u2 u3 u4 u5 u6 u7 u8 u9, v = .agg #[u0, u1, u2, u3, u4, u5, u6, u7, u8, u9] ∧ w.cell? ⟨g, o, none⟩ = some u0 ∧ w.cell? ⟨g, o + 1, none⟩ = some u1 ∧ w.cell? ⟨g, o + 2, none⟩ = some u2 ∧ w.cell? ⟨g, o + 3, none⟩ = some u3 ∧ w.cell? ⟨g, o + 4, none⟩ = some u4 ∧ w.cell? ⟨g, o + 5, none⟩ = some u5 ∧ w.cell? ⟨g, o + 6, none⟩ = some u6 ∧ w.cell? ⟨g, o + 7, none⟩ = some u7 ∧ w.cell? ⟨g, o + 8, none⟩ = some u8 ∧ w.cell? ⟨g, o + 9, none⟩ = some u9
/-- A net: n legs from a block's beginning. -/
structure NetIn (w : World) (g n : Nat) : Prop where
  lt : g < w.heap.size
  legs : ∀ i, i < n → ∃ v, LegN v ∧ LegC w g (i * 10) v
theorem NetIn.keep {w w' : World} {g n : Nat} (h : NetIn w g n) (hb : w'.heap[g]? = w.heap[g]?) : NetIn w' g n := by
  refine ⟨?_, fun i hi => ?_⟩
  · have h1 := h.lt
    by_cases hx : g < w'.heap.size
    · exact hx
    · rw [Array.getElem?_eq_none (by omega)] at hb
      rw [Array.getElem?_eq_getElem h1] at hb
      cases hb
  · obtain ⟨v, hv, u0, u1, u2, u3, u4, u5, u6, u7, u8, u9, e, h0, h1, h2, h3, h4, h5, h6, h7, h8, h9⟩ := h.legs i hi
    have k : ∀ (m : Nat) (u : Value), w.cell? ⟨g, m, none⟩ = some u → w'.cell? ⟨g, m, none⟩ = some u := fun m u hu => (World.cell?_of_block (w := w) hb).trans hu
    exact ⟨v, hv, u0, u1, u2, u3, u4, u5, u6, u7, u8, u9, e, k _ _ h0, k _ _ h1, k _ _ h2, k _ _ h3, k _ _ h4, k _ _ h5, k _ _ h6, k _ _ h7, k _ _ h8, k _ _ h9⟩
theorem NetIn.go {w w' : World} {g n R : Nat} (h : NetIn w g n) (ho : Only R w w') (hne : g ≠ R) : NetIn w' g n :=
  h.keep (ho.block g h.lt (by simp; omega))
theorem legAt_c {w : World} {base g n c i : Nat} {xs : List Value} (h : w.ownsRow base 80 10 (.slice (some ⟨g, 0, none⟩) n c) n xs) (hi : i < n) : LegC w g (i * 10) (legAt xs i) := by
  have hl : xs.length = n * 10 := h.1
  have k : ∀ m, m < n * 10 → w.cell? ⟨g, m, none⟩ = some (xs.getD m undef) := by
    intro m hm
    rw [h.cellAt m hm, List.getD_eq_getElem?_getD, List.getElem?_eq_getElem (by omega)]
    rfl
  exact ⟨_, _, _, _, _, _, _, _, _, _, rfl, k _ (by omega), k _ (by omega), k _ (by omega), k _ (by omega), k _ (by omega), k _ (by omega), k _ (by omega), k _ (by omega), k _ (by omega), k _ (by omega)⟩
theorem NS.netIn {w0 w : World} {R K : Nat} {a : Option Addr} {len cap g n c : Nat} {xs : List Value} {L : List (Nat × Obj)} (h : NS w0 R K a len cap g n c xs L w) : NetIn w g n :=
  ⟨h.base.2, fun i hi => ⟨_, (h.lst i hi).weakN, legAt_c h.row hi⟩⟩
/-- A leg is stored in a net. -/
theorem set10 {w : World} {g o : Nat} {cur : Array Value} {t : TypeId} (v0 v1 v2 v3 v4 v5 v6 v7 v8 v9 : Value) (hb : w.heap[g]? = some (.cells cur t (0, 0))) (hs : o + 10 ≤ cur.size) :
    LegC ((((((((((w.setCell ⟨g, o, none⟩ v0).setCell ⟨g, o + 1, none⟩ v1).setCell ⟨g, o + 2, none⟩ v2).setCell ⟨g, o + 3, none⟩ v3).setCell ⟨g, o + 4, none⟩ v4).setCell ⟨g, o + 5, none⟩ v5).setCell ⟨g, o + 6, none⟩ v6).setCell ⟨g, o + 7, none⟩ v7).setCell ⟨g, o + 8, none⟩ v8).setCell ⟨g, o + 9, none⟩ v9) g o (.agg #[v0, v1, v2, v3, v4, v5, v6, v7, v8, v9]) ∧
    ∀ m, m < o ∨ o + 10 ≤ m → ((((((((((w.setCell ⟨g, o, none⟩ v0).setCell ⟨g, o + 1, none⟩ v1).setCell ⟨g, o + 2, none⟩ v2).setCell ⟨g, o + 3, none⟩ v3).setCell ⟨g, o + 4, none⟩ v4).setCell ⟨g, o + 5, none⟩ v5).setCell ⟨g, o + 6, none⟩ v6).setCell ⟨g, o + 7, none⟩ v7).setCell ⟨g, o + 8, none⟩ v8).setCell ⟨g, o + 9, none⟩ v9).cell? ⟨g, m, none⟩ = w.cell? ⟨g, m, none⟩ := by
  have b := blk_set (blk_set (blk_set (blk_set (blk_set (blk_set (blk_set (blk_set (blk_set (blk_set hb o v0) (o + 1) v1) (o + 2) v2) (o + 3) v3) (o + 4) v4) (o + 5) v5) (o + 6) v6) (o + 7) v7) (o + 8) v8) (o + 9) v9
  have z0 : o < cur.size := by omega
  have z1 : o + 1 < cur.size := by omega
  have z2 : o + 2 < cur.size := by omega
  have z3 : o + 3 < cur.size := by omega
  have z4 : o + 4 < cur.size := by omega
  have z5 : o + 5 < cur.size := by omega
  have z6 : o + 6 < cur.size := by omega
  have z7 : o + 7 < cur.size := by omega
  have z8 : o + 8 < cur.size := by omega
  have z9 : o + 9 < cur.size := by omega
  refine ⟨⟨v0, v1, v2, v3, v4, v5, v6, v7, v8, v9, rfl, ?_, ?_, ?_, ?_, ?_, ?_, ?_, ?_, ?_, ?_⟩, fun m hm => ?_⟩
  all_goals rw [cell_of b]
  all_goals (try simp [Array.getElem?_setIfInBounds, z0, z1, z2, z3, z4, z5, z6, z7, z8, z9]; done)
  rw [cell_of hb]
  simp only [Array.getElem?_setIfInBounds]
  rw [if_neg (by omega), if_neg (by omega), if_neg (by omega), if_neg (by omega), if_neg (by omega), if_neg (by omega), if_neg (by omega), if_neg (by omega), if_neg (by omega), if_neg (by omega)]

/-- The leg at a place of a drawn net, cell by cell. -/
theorem NS.legCells {w0 w : World} {R K : Nat} {a : Option Addr} {len cap g n c i : Nat} {xs : List Value} {L : List (Nat × Obj)} (h : NS w0 R K a len cap g n c xs L w) (hi : i < n) :
    ∃ (nm fr tt : ByteArray) (dp ar cp : Int) (g1 c1 g2 c2 nb g3 c3 : Nat), LegOK w w0.heap.size 10000 (.slice none 0 0) (.agg #[.string nm, .string fr, .string tt, .int .i64 dp, .int .i64 ar, .int .i64 cp, .slice (some ⟨g1, 0, none⟩) 3 c1, .slice (some ⟨g2, 0, none⟩) 3 c2, .slice (some ⟨g3, 0, none⟩) nb c3, .slice none 0 0]) ∧
      w.cell? ⟨g, i * 10, none⟩ = some (.string nm) ∧ w.cell? ⟨g, i * 10 + 1, none⟩ = some (.string fr) ∧ w.cell? ⟨g, i * 10 + 2, none⟩ = some (.string tt) ∧ w.cell? ⟨g, i * 10 + 3, none⟩ = some (.int .i64 dp) ∧ w.cell? ⟨g, i * 10 + 4, none⟩ = some (.int .i64 ar) ∧ w.cell? ⟨g, i * 10 + 5, none⟩ = some (.int .i64 cp) ∧ w.cell? ⟨g, i * 10 + 6, none⟩ = some (.slice (some ⟨g1, 0, none⟩) 3 c1) ∧ w.cell? ⟨g, i * 10 + 7, none⟩ = some (.slice (some ⟨g2, 0, none⟩) 3 c2) ∧ w.cell? ⟨g, i * 10 + 8, none⟩ = some (.slice (some ⟨g3, 0, none⟩) nb c3) ∧ w.cell? ⟨g, i * 10 + 9, none⟩ = some (.slice none 0 0) := by
  have hv := h.lst i hi
  obtain ⟨u0, u1, u2, u3, u4, u5, u6, u7, u8, u9, e, h0, h1, h2, h3, h4, h5, h6, h7, h8, h9⟩ := legAt_c h.row hi
  rw [e] at hv
  have hv' := hv
  obtain ⟨nm, fr, tt, dp, ar, cp, vl, vs, vb, nb, he, hs, hd, ha, hc, hl, hss, hnb, hb⟩ := hv
  simp only [Value.agg.injEq, Array.mk.injEq, List.cons.injEq, and_true] at he
  obtain ⟨rfl, rfl, rfl, rfl, rfl, rfl, rfl, rfl, rfl, rfl⟩ := he
  obtain ⟨g1, c1, rfl, -⟩ := hl.form (by omega)
  obtain ⟨g2, c2, rfl, -⟩ := hss.form (by omega)
  obtain ⟨g3, c3, rfl, -⟩ := hb.form (by omega)
  exact ⟨_, _, _, _, _, _, _, _, _, _, _, _, _, hv', h0, h1, h2, h3, h4, h5, h6, h7, h8, h9⟩
theorem NS.block {w0 w : World} {R K : Nat} {a : Option Addr} {len cap g n c : Nat} {xs : List Value} {L : List (Nat × Obj)} (h : NS w0 R K a len cap g n c xs L w) : ∃ cur, w.heap[g]? = some (.cells cur 80 (0, 0)) ∧ n * 10 ≤ cur.size ∧ n ≤ c := by
  rcases h.row.2 with ⟨h', _⟩ | ⟨g2, c2, cur, h', _, hg, h1, _, h2, _⟩
  · simp at h'
  · simp only [Value.slice.injEq, Option.some.injEq, Addr.mk.injEq, and_true, true_and] at h'
    obtain ⟨rfl, rfl⟩ := h'
    exact ⟨cur, hg, by omega, h1⟩

theorem NetIn.store {w : World} {g n k : Nat} {cur : Array Value} {t : TypeId} {v0 v1 v2 v3 v4 v5 v6 v7 v8 v9 : Value} (h : NetIn w g n) (hb : w.heap[g]? = some (.cells cur t (0, 0))) (hs : n * 10 ≤ cur.size) (hk : k < n) (hv : LegN (.agg #[v0, v1, v2, v3, v4, v5, v6, v7, v8, v9])) :
    NetIn ((((((((((w.setCell ⟨g, k * 10, none⟩ v0).setCell ⟨g, k * 10 + 1, none⟩ v1).setCell ⟨g, k * 10 + 2, none⟩ v2).setCell ⟨g, k * 10 + 3, none⟩ v3).setCell ⟨g, k * 10 + 4, none⟩ v4).setCell ⟨g, k * 10 + 5, none⟩ v5).setCell ⟨g, k * 10 + 6, none⟩ v6).setCell ⟨g, k * 10 + 7, none⟩ v7).setCell ⟨g, k * 10 + 8, none⟩ v8).setCell ⟨g, k * 10 + 9, none⟩ v9) g n := by
  obtain ⟨hc, hother⟩ := set10 v0 v1 v2 v3 v4 v5 v6 v7 v8 v9 hb (o := k * 10) (by omega)
  refine ⟨by simpa [World.setCell] using h.lt, fun i hi => ?_⟩
  by_cases e : i = k
  · subst e
    exact ⟨_, hv, hc⟩
  · obtain ⟨v, hv2, u0, u1, u2, u3, u4, u5, u6, u7, u8, u9, e, h0, h1, h2, h3, h4, h5, h6, h7, h8, h9⟩ := h.legs i hi
    exact ⟨v, hv2, u0, u1, u2, u3, u4, u5, u6, u7, u8, u9, e, (hother _ (by omega)).trans h0, (hother _ (by omega)).trans h1, (hother _ (by omega)).trans h2, (hother _ (by omega)).trans h3, (hother _ (by omega)).trans h4, (hother _ (by omega)).trans h5, (hother _ (by omega)).trans h6, (hother _ (by omega)).trans h7, (hother _ (by omega)).trans h8, (hother _ (by omega)).trans h9⟩
theorem leg_dso {w0 w : World} {R K g o : Nat} {a : Option Addr} {len cap : Nat} {L : List (Nat × Obj)} {v0 v1 v2 v3 v4 v5 v6 v7 v8 v9 : Value} (h : DS w0 noS R K a len cap L w) (hB : w0.heap.size ≤ g) :
    DS w0 noS R K a len cap [] ((((((((((w.setCell ⟨g, o, none⟩ v0).setCell ⟨g, o + 1, none⟩ v1).setCell ⟨g, o + 2, none⟩ v2).setCell ⟨g, o + 3, none⟩ v3).setCell ⟨g, o + 4, none⟩ v4).setCell ⟨g, o + 5, none⟩ v5).setCell ⟨g, o + 6, none⟩ v6).setCell ⟨g, o + 7, none⟩ v7).setCell ⟨g, o + 8, none⟩ v8).setCell ⟨g, o + 9, none⟩ v9) := by
  have hnil : ∀ p, p ∈ ([] : List (Nat × Obj)) → p ∈ ([] : List (Nat × Obj)) ∧ p.1 ≠ g := fun p hp => by cases hp
  exact ((((((((((h.less (L' := []) (fun p hp => by cases hp)).set o v0 hB rfl hnil).set (o + 1) v1 hB rfl hnil).set (o + 2) v2 hB rfl hnil).set (o + 3) v3 hB rfl hnil).set (o + 4) v4 hB rfl hnil).set (o + 5) v5 hB rfl hnil).set (o + 6) v6 hB rfl hnil).set (o + 7) v7 hB rfl hnil).set (o + 8) v8 hB rfl hnil).set (o + 9) v9 hB rfl hnil

end My
end Go.Proofs.YtjmlekhgnbbjoaaGreatDoor
