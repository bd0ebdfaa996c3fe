/- The drawing function that spoils a leg. -/
import Derived.Test.YtjmlekhgnbbjoaaGreatDoorNetQ
import Derived.Deep.CutRange
namespace Go.Proofs.YtjmlekhgnbbjoaaGreatDoor
open Go.RowKit Go.Deep
set_option linter.unusedVariables false
namespace My

theorem x_set {w0 w : World} {R K X B : Nat} {a : Option Addr} {len cap : Nat} {cur : Array Value} {t : TypeId} {ob : Obj} (h : DS w0 noS R K a len cap [(X, .cells cur t (0, 0)), (B, ob)] w) (hXB : B ≠ X) (f : Nat) (v : Value) :
    DS w0 noS R K a len cap [(X, .cells (cur.setIfInBounds f v) t (0, 0)), (B, ob)] (w.setCell ⟨X, f, none⟩ v) := by
  obtain ⟨hX0, hXb, -⟩ := h.loc _ (.head _)
  have hX0 : w0.heap.size ≤ X := hX0
  have hs := h.set (L' := [(B, ob)]) f v hX0 rfl (fun p hp => by
    rw [List.mem_singleton] at hp
    subst hp
    exact ⟨.tail _ (.head _), hXB⟩)
  exact hs.add hX0 (blk_set hXb f v) rfl

/-- A row of texts that was built just now. -/
theorem fresh_strs3 {w : World} {vs : Array Value} {t : TypeId} {q : Nat} (n : Nat) (hn : n = vs.size) (hall : ∀ v, v ∈ vs → StrIn q v) : ∀ i, i < n → ∃ v, (w.alloc (.cells vs t)).cell? ⟨w.heap.size, i, none⟩ = some v ∧ StrIn q v := by
  intro i hi
  subst hn
  refine ⟨vs[i], ?_, hall _ (Array.getElem_mem hi)⟩
  have hb := blk_alloc_new w (.cells vs t)
  simp only [World.cell?, hb]
  simp [hi]
theorem own_ne {X B g : Nat} {oX oB : Obj} {p : Nat × Obj} (hp : p ∈ [(X, oX), (B, oB)]) (hX : X ≠ g) (hB : B ≠ g) : p.1 ≠ g := by
  rcases List.mem_cons.1 hp with rfl | hp
  · exact hX
  · rw [List.mem_singleton] at hp
    subst hp
    exact hB
theorem infoHold : (Tryz.prog.info? 113).map (fun i => (i.zero, i.size, i.bytes)) = some (some (.agg #[.int .i64 0, .int .i64 0, .int .i64 0]), 3, 24) := by kernel_rfl
theorem news_3h (w : World) (u v x : Value) (t : TypeId) : ∀ j y, [u, v, x][j]? = some y → (w.alloc (.cells #[u, v, x] t)).cell? (Addr.add ⟨w.heap.size, 0, none⟩ j) = some y :=
  World.news_of_block (blk_alloc_new w (.cells #[u, v, x] t))
theorem row_ne {w : World} {base size n g : Nat} {e t : TypeId} {v : Value} {xs : List Value} {cur : Array Value} {fr : Nat × Nat} (h : w.ownsRow base e size v n xs) (hg : w.heap[g]? = some (.cells cur t fr)) (ht : t ≠ e) : v.ownBlock ≠ some g := by
  intro e
  rcases h.2 with ⟨rfl, _⟩ | ⟨g2, c2, cur2, rfl, _, hg2, _⟩
  · simp [Value.ownBlock] at e
  · simp [Value.ownBlock] at e
    subst e
    rw [hg] at hg2
    simp only [Option.some.injEq, Obj.cells.injEq] at hg2
    exact ht hg2.2.1
theorem grow_ds {w0 wE w4 : World} {R K X B m g c : Nat} {a : Option Addr} {len cap : Nat} {oX oB o : Obj} (hd : DS w0 noS R K a len cap [(X, oX), (B, oB)] wE)
    (hgrow : (wE.alloc o).grownBy w4 (Value.ownBlock (.slice (some ⟨g, 0, none⟩) m c))) (hg : w0.heap.size ≤ g) (hX : X ≠ g) (hB : B ≠ g) : DS w0 noS R K a len cap [(X, oX), (B, oB)] w4 :=
  (hd.alloc o).grow hgrow (fun q hq => by
    simp [Value.ownBlock] at hq
    subst hq
    exact ⟨hg, rfl, fun p hp => own_ne hp hX hB⟩)
theorem sel3 {w : World} {u v x y : Int} {t : TypeId} (y0 : 0 ≤ y) (y1 : y < 3) : ∃ q : Int, (w.alloc (.cells #[.int .i64 u, .int .i64 v, .int .i64 x] t)).cell? ⟨w.heap.size, y.toNat, none⟩ = some (.int .i64 q) := by
  have hb := blk_alloc_new w (.cells #[.int .i64 u, .int .i64 v, .int .i64 x] t)
  have : y = 0 ∨ y = 1 ∨ y = 2 := by omega
  rcases this with rfl | rfl | rfl
  · exact ⟨u, by simp only [World.cell?, hb]; rfl⟩
  · exact ⟨v, by simp only [World.cell?, hb]; rfl⟩
  · exact ⟨x, by simp only [World.cell?, hb]; rfl⟩
theorem sel3k {R H : Nat} {wz w' : World} {u v x y : Int} {t : TypeId} (hon : Only R wz w') (hb : wz.heap[H]? = some (.cells #[.int .i64 u, .int .i64 v, .int .i64 x] t (0, 0))) (hR : H ≠ R) (y0 : 0 ≤ y) (y1 : y < 3) : ∃ q : Int, w'.cell? ⟨H, y.toNat, none⟩ = some (.int .i64 q) := by
  have hb2 := (hon.block H (heap_lt hb) (by simp; omega)).trans hb
  have : y = 0 ∨ y = 1 ∨ y = 2 := by omega
  rcases this with rfl | rfl | rfl
  · exact ⟨u, by simp only [World.cell?, hb2]; rfl⟩
  · exact ⟨v, by simp only [World.cell?, hb2]; rfl⟩
  · exact ⟨x, by simp only [World.cell?, hb2]; rfl⟩

theorem sel3b {w : World} {h y : Nat} {u v x : Int} {t : TypeId} (hb : w.heap[h]? = some (.cells #[.int .i64 u, .int .i64 v, .int .i64 x] t (0, 0))) (hy : y < 3) : ∃ q : Int, w.cell? ⟨h, y, none⟩ = some (.int .i64 q) := by
  have : y = 0 ∨ y = 1 ∨ y = 2 := by omega
  rcases this with rfl | rfl | rfl
  · exact ⟨u, by simp only [World.cell?, hb]; rfl⟩
  · exact ⟨v, by simp only [World.cell?, hb]; rfl⟩
  · exact ⟨x, by simp only [World.cell?, hb]; rfl⟩
def spoil3G (R X : Nat) (cp : Int) (d : Nat) (v : Value) (w : World) : Prop :=
  match d with
  | 35 => ∃ h : Nat, v = .slice (some ⟨h, 0, none⟩) 3 3 ∧ h ≠ R ∧ w.heap[h]? = some (.cells #[.int .i64 0, .int .i64 10, .int .i64 (cp + 1)] 3 (0, 0))
  | 37 => ∃ y : Nat, v = .int .i64 (y : Int) ∧ y < 3
  | 38 => ∃ h y : Nat, v = .pointer (some ⟨h, y, none⟩) ∧ y < 3 ∧ h ≠ R ∧ w.heap[h]? = some (.cells #[.int .i64 0, .int .i64 10, .int .i64 (cp + 1)] 3 (0, 0))
  | 39 => ∃ y : Int, v = .int .i64 y
  | 32 | 40 => v = .pointer (some ⟨X, 5, none⟩)
  | 33 => v = .int .i64 cp
  | 34 => v = .int .i64 (cp + 1)
  | 36 => v = .pointer (some ⟨R, 0, none⟩)
  | _ => True
theorem spoil3_stable (R X : Nat) (cp : Int) {d : Nat} {v : Value} {w w' : World} (hb : Only R w w') (h : spoil3G R X cp d v w) : spoil3G R X cp d v w' := by
  unfold spoil3G at h ⊢
  split at h
  · obtain ⟨t, e, h1, h2⟩ := h; exact ⟨t, e, h1, (hb.block t (heap_lt h2) (by simp; omega)).trans h2⟩
  · exact h
  · obtain ⟨t, y, e, h0, h1, h2⟩ := h; exact ⟨t, y, e, h0, h1, (hb.block t (heap_lt h2) (by simp; omega)).trans h2⟩
  · exact h
  all_goals exact h

set_option maxRecDepth 100000 in
set_option maxHeartbeats 40000000 in
theorem l14SpoilLeg_any {R K : Nat} {a : Option Addr} {len cap : Nat} {w : World} {base : Nat} {D : Int} {v : Value} (hK : K ≤ 1000000) (h : DS w noS R K a len cap [] w) (hv : LegOK w base D (.slice none 0 0) v) :
    Calls Tryz.prog 54 #[.pointer (some ⟨R, 0, none⟩), v] w fun e w' => ∃ v', e = .returned v' ∧ LegN v' ∧ DS w noS R (K + 20) a len cap [] w' := by
  obtain ⟨nm, fr, tt, dp, ar, cp, vl, vs, vb, nb, rfl, hs, hd, ha, hc, hl, hss, hnb, hb⟩ := hv
  have hR := h.lt
  obtain ⟨g1, c1, rfl, hg1, hg1w, hc1, -⟩ := hl.form (by omega)
  obtain ⟨g2, c2, rfl, hg2, hg2w, hc2, -⟩ := hss.form (by omega)
  obtain ⟨g3, c3, rfl, hg3, hg3w, hc3, -⟩ := hb.form (by omega)
  obtain ⟨oX, hoX⟩ : ∃ o, o = Obj.cells #[.string nm, .string fr, .string tt, .int .i64 dp, .int .i64 ar, .int .i64 cp, .slice (some ⟨g1, 0, none⟩) 3 c1, .slice (some ⟨g2, 0, none⟩) 3 c2, .slice (some ⟨g3, 0, none⟩) nb c3, .slice none 0 0] 80 (0, 0) := ⟨_, rfl⟩
  have HD := Lib.hid ((h.alloc oX).box #[.string ⟨#[]⟩, .string ⟨#[]⟩, .string ⟨#[]⟩, .int .i64 0, .int .i64 0, .int .i64 0, .slice none 0 0, .slice none 0 0, .slice none 0 0, .slice none 0 0] 80)
  have HV : Hid (LegOK ((w.alloc oX).alloc (.cells #[.string ⟨#[]⟩, .string ⟨#[]⟩, .string ⟨#[]⟩, .int .i64 0, .int .i64 0, .int .i64 0, .slice none 0 0, .slice none 0 0, .slice none 0 0, .slice none 0 0] 80)) base D (.slice none 0 0) (.agg #[.string nm, .string fr, .string tt, .int .i64 dp, .int .i64 ar, .int .i64 cp, .slice (some ⟨g1, 0, none⟩) 3 c1, .slice (some ⟨g2, 0, none⟩) 3 c2, .slice (some ⟨g3, 0, none⟩) nb c3, .slice none 0 0])) :=
    ⟨nm, fr, tt, dp, ar, cp, _, _, _, nb, rfl, hs, hd, ha, hc, (hl.alloc _).alloc _, (hss.alloc _).alloc _, hnb, (hb.alloc _).alloc _⟩
  have hsz1 : (w.alloc oX).heap.size = w.heap.size + 1 := by simp
  rw [hsz1] at HD
  subst hoX
  clear h hl hss hb hs hd ha hc hnb hsz1
  go_enter Tryz.func54, Tryz.ntmps54
  go_wp2_with fail
  obtain ⟨w1, hw1⟩ : ∃ w1, w1 = (w.alloc (.cells #[.string nm, .string fr, .string tt, .int .i64 dp, .int .i64 ar, .int .i64 cp, .slice (some ⟨g1, 0, none⟩) 3 c1, .slice (some ⟨g2, 0, none⟩) 3 c2, .slice (some ⟨g3, 0, none⟩) nb c3, .slice none 0 0] 80)).alloc (.cells #[.string ⟨#[]⟩, .string ⟨#[]⟩, .string ⟨#[]⟩, .int .i64 0, .int .i64 0, .int .i64 0, .slice none 0 0, .slice none 0 0, .slice none 0 0, .slice none 0 0] 80) := ⟨_, rfl⟩
  rw [← hw1] at HD HV
  rw [← hw1]
  have hw1s : w.heap.size ≤ w1.heap.size := by rw [hw1]; simp; omega
  clear hw1
  refine (l6Copy_any HD.out.here HV.out).mono ?_
  rintro e wc ⟨v', gh, rfl, ⟨nm, fr, tt, dp, ar, cp, vl, vs, vb, nb, rfl, hs, hd, ha, hc, hl, hss, hnb, hb⟩, hhold, hds⟩
  obtain ⟨g6, c6, rfl, hg6, hg6w, hc6, -⟩ := hl.form (by omega)
  obtain ⟨g7, c7, rfl, hg7, hg7w, hc7, -⟩ := hss.form (by omega)
  obtain ⟨g8, c8, rfl, hg8, hg8w, hc8, -⟩ := hb.form (by omega)
  have HDC := Lib.hid ((HD.out.call hds (More.refl _ _)).box #[.string nm, .string fr, .string tt, .int .i64 dp, .int .i64 ar, .int .i64 cp, .slice (some ⟨g6, 0, none⟩) 3 c6, .slice (some ⟨g7, 0, none⟩) 3 c7, .slice (some ⟨g8, 0, none⟩) nb c8, .slice (some ⟨gh, 0, none⟩) 0 0] 80)
  have HL := Lib.hid (hl.alloc (.cells #[.string nm, .string fr, .string tt, .int .i64 dp, .int .i64 ar, .int .i64 cp, .slice (some ⟨g6, 0, none⟩) 3 c6, .slice (some ⟨g7, 0, none⟩) 3 c7, .slice (some ⟨g8, 0, none⟩) nb c8, .slice (some ⟨gh, 0, none⟩) 0 0] 80))
  have HS := Lib.hid (hss.alloc (.cells #[.string nm, .string fr, .string tt, .int .i64 dp, .int .i64 ar, .int .i64 cp, .slice (some ⟨g6, 0, none⟩) 3 c6, .slice (some ⟨g7, 0, none⟩) 3 c7, .slice (some ⟨g8, 0, none⟩) nb c8, .slice (some ⟨gh, 0, none⟩) 0 0] 80))
  have HB := Lib.hid (hb.alloc (.cells #[.string nm, .string fr, .string tt, .int .i64 dp, .int .i64 ar, .int .i64 cp, .slice (some ⟨g6, 0, none⟩) 3 c6, .slice (some ⟨g7, 0, none⟩) 3 c7, .slice (some ⟨g8, 0, none⟩) nb c8, .slice (some ⟨gh, 0, none⟩) 0 0] 80))
  have HH := Lib.hid (hhold.kept (World.grownBy_alloc wc (.cells #[.string nm, .string fr, .string tt, .int .i64 dp, .int .i64 ar, .int .i64 cp, .slice (some ⟨g6, 0, none⟩) 3 c6, .slice (some ⟨g7, 0, none⟩) 3 c7, .slice (some ⟨g8, 0, none⟩) nb c8, .slice (some ⟨gh, 0, none⟩) 0 0] 80) none) (Or.inr (by simp [Value.ownBlock])))
  have hBX : w.heap.size + 1 < wc.heap.size := heap_lt ((HD.out.call hds (More.refl _ _)).loc _ (.head _)).2.1
  clear HD HV hl hss hb hhold hds
  go_upto_region 2 with fail
  obtain ⟨w2, hw2⟩ : ∃ w2, w2 = wc.alloc (.cells #[.string nm, .string fr, .string tt, .int .i64 dp, .int .i64 ar, .int .i64 cp, .slice (some ⟨g6, 0, none⟩) 3 c6, .slice (some ⟨g7, 0, none⟩) 3 c7, .slice (some ⟨g8, 0, none⟩) nb c8, .slice (some ⟨gh, 0, none⟩) 0 0] 80) := ⟨_, rfl⟩
  rw [← hw2] at HDC HL HS HB HH
  rw [← hw2]
  obtain ⟨X, hX⟩ : ∃ X, X = wc.heap.size := ⟨_, rfl⟩
  obtain ⟨B, hB⟩ : ∃ B, B = w.heap.size + 1 := ⟨_, rfl⟩
  simp only [← hX, ← hB] at HDC hBX hg6w hg7w hg8w
  rw [← hX, ← hB]
  clear hw2 hX
  have HBW : Hid (w.heap.size ≤ B) := by show w.heap.size ≤ B; omega
  clear hB
  have hXB : B ≠ X := by omega
  have HD := HDC
  clear HDC
  have hgl : w.heap.size ≤ g6 ∧ w.heap.size ≤ g7 ∧ w.heap.size ≤ g8 := by omega
  have hRw : R < w1.heap.size := by omega
  have hw1X : w1.heap.size ≤ X := by omega
  clear hg6 hg7 hg8 hg1 hg2 hg3 hg1w hg2w hg3w hc1 hc2 hc3
  go_wp2_with fail
  ((with_reducible refine (pick_ds (by repeat (first | exact HD.out | apply DS.alloc | apply DS.drewN | apply DS.drew)) (by omega) (by omega) (by omega)).mono ?_); rintro e wk ⟨k, rfl, k0, k1, hds, hon⟩; have Hk := Lib.hid hon; clear HD; have HD := Lib.hid hds; clear hds hon)
  have HL2 := Lib.hid (HL.out.go Hk.out hRw)
  have HS2 := Lib.hid (HS.out.go Hk.out hRw)
  have HB2 := Lib.hid (HB.out.go Hk.out hRw)
  have HH2 := Lib.hid (HH.out.kept Hk.out (Or.inr (by have := (HH.out.lt gh rfl).1; simp [Value.ownBlock]; omega)))
  clear HL HS HB HH Hk
  have HXB := Lib.hid hXB
  have hcase : k = 0 ∨ k = 1 ∨ k = 2 ∨ k = 3 ∨ k = 4 ∨ k = 5 ∨ k = 6 ∨ k = 7 ∨ k = 8 := by omega
  obtain ⟨-, hbX, -⟩ := HD.out.loc _ (.head _)
  obtain ⟨-, hbB, -⟩ := HD.out.loc _ (.tail _ (.head _))
  have e0 := cell_of hbX 0
  have k0 := frozen_of hbX 0
  have m0 := cell_of hbB 0
  have n0 := frozen_of hbB 0
  have e1 := cell_of hbX 1
  have k1 := frozen_of hbX 1
  have m1 := cell_of hbB 1
  have n1 := frozen_of hbB 1
  have e2 := cell_of hbX 2
  have k2 := frozen_of hbX 2
  have m2 := cell_of hbB 2
  have n2 := frozen_of hbB 2
  have e3 := cell_of hbX 3
  have k3 := frozen_of hbX 3
  have m3 := cell_of hbB 3
  have n3 := frozen_of hbB 3
  have e4 := cell_of hbX 4
  have k4 := frozen_of hbX 4
  have m4 := cell_of hbB 4
  have n4 := frozen_of hbB 4
  have e5 := cell_of hbX 5
  have k5 := frozen_of hbX 5
  have m5 := cell_of hbB 5
  have n5 := frozen_of hbB 5
  have e6 := cell_of hbX 6
  have k6 := frozen_of hbX 6
  have m6 := cell_of hbB 6
  have n6 := frozen_of hbB 6
  have e7 := cell_of hbX 7
  have k7 := frozen_of hbX 7
  have m7 := cell_of hbB 7
  have n7 := frozen_of hbB 7
  have e8 := cell_of hbX 8
  have k8 := frozen_of hbX 8
  have m8 := cell_of hbB 8
  have n8 := frozen_of hbB 8
  have e9 := cell_of hbX 9
  have k9 := frozen_of hbX 9
  have m9 := cell_of hbB 9
  have n9 := frozen_of hbB 9
  simp at e0 m0 e1 m1 e2 m2 e3 m3 e4 m4 e5 m5 e6 m6 e7 m7 e8 m8 e9 m9
  have hXw := heap_lt hbX
  have hBw := heap_lt hbB
  simp at hXw hBw
  clear hbX hbB
  rcases hcase with rfl | rfl | rfl | rfl | rfl | rfl | rfl | rfl | rfl
  · go_wp2_with fail
    refine (of_ds (q := 10) (by repeat (first | exact HD.out | apply DS.alloc | apply DS.drewN | apply DS.drew)) (by omega) wk.heap.size 3 3 (by omega) (by omega) (by omega) (by have := HD.out.here.lt; omega) (by simp) (fresh_strs3 _ rfl (by
      intro v hv
      simp at hv
      rcases hv with rfl | rfl | rfl
      all_goals exact ⟨_, rfl, by decide⟩))).mono ?_
    rintro e wz ⟨s, rfl, hs', hds, hon⟩
    have HDZ := Lib.hid hds
    clear hds hon
    obtain ⟨-, hbX, -⟩ := HDZ.out.loc _ (.head _)
    obtain ⟨-, hbB, -⟩ := HDZ.out.loc _ (.tail _ (.head _))
    have e0 := cell_of hbX 0
    have k0 := frozen_of hbX 0
    have m0 := cell_of hbB 0
    have n0 := frozen_of hbB 0
    have e1 := cell_of hbX 1
    have k1 := frozen_of hbX 1
    have m1 := cell_of hbB 1
    have n1 := frozen_of hbB 1
    have e2 := cell_of hbX 2
    have k2 := frozen_of hbX 2
    have m2 := cell_of hbB 2
    have n2 := frozen_of hbB 2
    have e3 := cell_of hbX 3
    have k3 := frozen_of hbX 3
    have m3 := cell_of hbB 3
    have n3 := frozen_of hbB 3
    have e4 := cell_of hbX 4
    have k4 := frozen_of hbX 4
    have m4 := cell_of hbB 4
    have n4 := frozen_of hbB 4
    have e5 := cell_of hbX 5
    have k5 := frozen_of hbX 5
    have m5 := cell_of hbB 5
    have n5 := frozen_of hbB 5
    have e6 := cell_of hbX 6
    have k6 := frozen_of hbX 6
    have m6 := cell_of hbB 6
    have n6 := frozen_of hbB 6
    have e7 := cell_of hbX 7
    have k7 := frozen_of hbX 7
    have m7 := cell_of hbB 7
    have n7 := frozen_of hbB 7
    have e8 := cell_of hbX 8
    have k8 := frozen_of hbX 8
    have m8 := cell_of hbB 8
    have n8 := frozen_of hbB 8
    have e9 := cell_of hbX 9
    have k9 := frozen_of hbX 9
    have m9 := cell_of hbB 9
    have n9 := frozen_of hbB 9
    simp at e0 m0 e1 m1 e2 m2 e3 m3 e4 m4 e5 m5 e6 m6 e7 m7 e8 m8 e9 m9
    have hXw := heap_lt hbX
    have hBw := heap_lt hbB
    simp at hXw hBw
    clear hbX hbB
    go_wp2_with fail
    refine bodyPost_ret (v := .agg #[.string s, .string fr, .string tt, .int .i64 dp, .int .i64 ar, .int .i64 cp, .slice (some ⟨g6, 0, none⟩) 3 c6, .slice (some ⟨g7, 0, none⟩) 3 c7, .slice (some ⟨g8, 0, none⟩) nb c8, .slice (some ⟨gh, 0, none⟩) 0 0]) (by simp [results, Tryz.results54, go_sem, m0, m1, m2, m3, m4, m5, m6, m7, m8, m9]) rfl ⟨_, rfl, ⟨s, fr, tt, dp, ar, cp, _, _, _, _, _, _, _, _, _, _, _, _, rfl, hs'⟩, ?_⟩
    first
      | exact (leg_ds (x_set HDZ.out HXB.out 0 _) HBW.out).mono (by omega)
      | exact ((leg_ds (x_set HDZ.out HXB.out 0 _) HBW.out).alloc _).mono (by omega)
  · go_wp2_with fail
    refine bodyPost_ret (v := .agg #[.string nm, .string fr, .string fr, .int .i64 dp, .int .i64 ar, .int .i64 cp, .slice (some ⟨g6, 0, none⟩) 3 c6, .slice (some ⟨g7, 0, none⟩) 3 c7, .slice (some ⟨g8, 0, none⟩) nb c8, .slice (some ⟨gh, 0, none⟩) 0 0]) (by simp [results, Tryz.results54, go_sem, m0, m1, m2, m3, m4, m5, m6, m7, m8, m9]) rfl ⟨_, rfl, ⟨nm, fr, fr, dp, ar, cp, _, _, _, _, _, _, _, _, _, _, _, _, rfl, hs.1⟩, ?_⟩
    first
      | exact (leg_ds (x_set HD.out HXB.out 2 _) HBW.out).mono (by omega)
      | exact ((leg_ds (x_set HD.out HXB.out 2 _) HBW.out).alloc _).mono (by omega)
  · go_wp2_with fail
    refine bodyPost_ret (v := .agg #[.string nm, .string fr, .string tt, .int .i64 dp, .int .i64 dp, .int .i64 cp, .slice (some ⟨g6, 0, none⟩) 3 c6, .slice (some ⟨g7, 0, none⟩) 3 c7, .slice (some ⟨g8, 0, none⟩) nb c8, .slice (some ⟨gh, 0, none⟩) 0 0]) (by simp [results, Tryz.results54, go_sem, m0, m1, m2, m3, m4, m5, m6, m7, m8, m9]) rfl ⟨_, rfl, ⟨nm, fr, tt, dp, dp, cp, _, _, _, _, _, _, _, _, _, _, _, _, rfl, hs.1⟩, ?_⟩
    first
      | exact (leg_ds (x_set HD.out HXB.out 4 _) HBW.out).mono (by omega)
      | exact ((leg_ds (x_set HD.out HXB.out 4 _) HBW.out).alloc _).mono (by omega)
  · clear e0 k0 m0 n0 e1 k1 m1 n1 e2 k2 m2 n2 e3 k3 m3 n3 e4 k4 m4 n4 e5 k5 m5 n5 e6 k6 m6 n6 e7 k7 m7 n7 e8 k8 m8 n8 e9 k9 m9 n9
    go_upto_region 11 with fail
    refine wp_region_tail 9 (by decide) (by kernel_rfl) [32, 33, 34, 35, 36, 37, 38, 39, 40]
      (spoil3G R X cp) (fun n w' => DS w noS R (K + 1 + n) a len cap [(X, .cells #[.string nm, .string fr, .string tt, .int .i64 dp, .int .i64 ar, .int .i64 cp, .slice (some ⟨g6, 0, none⟩) 3 c6, .slice (some ⟨g7, 0, none⟩) 3 c7, .slice (some ⟨g8, 0, none⟩) nb c8, .slice (some ⟨gh, 0, none⟩) 0 0] 80 (0, 0)), (B, .cells #[.string ⟨#[]⟩, .string ⟨#[]⟩, .string ⟨#[]⟩, .int .i64 0, .int .i64 0, .int .i64 0, .slice none 0 0, .slice none 0 0, .slice none 0 0, .slice none 0 0] 80 (0, 0))] w' ∧ Only R wk w') (Only R) (Only.refl R) (fun _ _ _ => Only.trans) ?stable
      [32, 33, 34, 35, 36, 37, 38, 39, 40] (by kernel_rfl) (by kernel_rfl) (by kernel_rfl) ⟨HD.out.drew, (Only.refl _ _).drew⟩ ?step ?fin
    case stable => exact fun d v w w' hS hG => spoil3_stable _ _ _ hS hG
    case step =>
      refine ⟨?_, ?_, ?_, ?_, ?_, ?_, ?_, ?_, ?_, trivial⟩
      all_goals intro nq f wx hnq hI hS haf
      all_goals have HI := Lib.hid hI
      all_goals clear hI hS
      · simp [frameOf, goFrame]; go_simp; have hn : nq < 10 := hnq; exact ⟨⟨HI.out.1.mono (by omega), HI.out.2⟩, Only.refl _ _, rfl⟩
      · have h32 : f 32 = .pointer (some ⟨X, 5, none⟩) := (by first | exact haf.1 | exact haf.2.1 | exact haf.2.2.1 | exact haf.2.2.2.1 | exact haf.2.2.2.2.1 | exact haf.2.2.2.2.2.1 | exact haf.2.2.2.2.2.2.1 | exact haf.2.2.2.2.2.2.2.1 | exact haf.2.2.2.2.2.2.2.2.1); have c5 := cell_of (HI.out.1.loc _ (.head _)).2.1 5; simp at c5; simp [frameOf, goFrame, h32]; go_simp; have hn : nq < 10 := hnq; exact ⟨⟨HI.out.1.mono (by omega), HI.out.2⟩, Only.refl _ _, rfl⟩
      · have h33 : f 33 = .int .i64 cp := (by first | exact haf.1 | exact haf.2.1 | exact haf.2.2.1 | exact haf.2.2.2.1 | exact haf.2.2.2.2.1 | exact haf.2.2.2.2.2.1 | exact haf.2.2.2.2.2.2.1 | exact haf.2.2.2.2.2.2.2.1 | exact haf.2.2.2.2.2.2.2.2.1); have e1 : IntKind.i64.wrap (cp + 1) = cp + 1 := IntWalk.i64_in _ (by omega); simp [frameOf, goFrame, h33]; go_simp; have hn : nq < 10 := hnq; exact ⟨⟨HI.out.1.mono (by omega), HI.out.2⟩, Only.refl _ _, rfl⟩
      · have h34 : f 34 = .int .i64 (cp + 1) := (by first | exact haf.1 | exact haf.2.1 | exact haf.2.2.1 | exact haf.2.2.2.1 | exact haf.2.2.2.2.1 | exact haf.2.2.2.2.2.1 | exact haf.2.2.2.2.2.2.1 | exact haf.2.2.2.2.2.2.2.1 | exact haf.2.2.2.2.2.2.2.2.1); have hRx := HI.out.1.here.lt; simp [frameOf, goFrame, h34]; go_simp; have hn : nq < 10 := hnq; exact ⟨⟨(HI.out.1.alloc _).mono (by omega), HI.out.2.alloc _⟩, (Only.refl _ _).alloc _, wx.heap.size, rfl, by omega, blk_alloc_new _ _⟩
      · simp [frameOf, goFrame]; go_simp; have hn : nq < 10 := hnq; exact ⟨⟨HI.out.1.mono (by omega), HI.out.2⟩, Only.refl _ _, rfl⟩
      · have h36 : f 36 = .pointer (some ⟨R, 0, none⟩) := (by first | exact haf.1 | exact haf.2.1 | exact haf.2.2.1 | exact haf.2.2.2.1 | exact haf.2.2.2.2.1 | exact haf.2.2.2.2.2.1 | exact haf.2.2.2.2.2.2.1 | exact haf.2.2.2.2.2.2.2.1 | exact haf.2.2.2.2.2.2.2.2.1); simp [frameOf, goFrame, h36]; go_simp; have hn : nq < 10 := hnq; refine (pick_ds (n := 3) HI.out.1 (by omega) (by omega) (by omega)).mono ?_; rintro e wy ⟨y, rfl, y0, y1, hds, hon⟩; exact ⟨⟨hds.mono (by omega), HI.out.2.trans hon⟩, hon, y.toNat, by congr 1; omega, by omega⟩
      · obtain ⟨b35, h35, l35, k35⟩ : ∃ h : Nat, f 35 = .slice (some ⟨h, 0, none⟩) 3 3 ∧ h ≠ R ∧ wx.heap[h]? = some (.cells #[.int .i64 0, .int .i64 10, .int .i64 (cp + 1)] 3 (0, 0)) := (by first | exact haf.1 | exact haf.2.1 | exact haf.2.2.1 | exact haf.2.2.2.1 | exact haf.2.2.2.2.1 | exact haf.2.2.2.2.2.1 | exact haf.2.2.2.2.2.2.1 | exact haf.2.2.2.2.2.2.2.1 | exact haf.2.2.2.2.2.2.2.2.1); obtain ⟨y37, h37, l37⟩ : ∃ y : Nat, f 37 = .int .i64 (y : Int) ∧ y < 3 := (by first | exact haf.1 | exact haf.2.1 | exact haf.2.2.1 | exact haf.2.2.2.1 | exact haf.2.2.2.2.1 | exact haf.2.2.2.2.2.1 | exact haf.2.2.2.2.2.2.1 | exact haf.2.2.2.2.2.2.2.1 | exact haf.2.2.2.2.2.2.2.2.1); have yy : (0 : Int) ≤ (y37 : Int) ∧ (y37 : Int) < 3 := ⟨by omega, by omega⟩; simp [frameOf, goFrame, h35, h37]; go_simp; have hn : nq < 10 := hnq; exact ⟨⟨HI.out.1.mono (by omega), HI.out.2⟩, Only.refl _ _, b35, y37, rfl, l37, l35, k35⟩
      · obtain ⟨b38, y38, h38, l38, m38, k38⟩ : ∃ h y : Nat, f 38 = .pointer (some ⟨h, y, none⟩) ∧ y < 3 ∧ h ≠ R ∧ wx.heap[h]? = some (.cells #[.int .i64 0, .int .i64 10, .int .i64 (cp + 1)] 3 (0, 0)) := (by first | exact haf.1 | exact haf.2.1 | exact haf.2.2.1 | exact haf.2.2.2.1 | exact haf.2.2.2.2.1 | exact haf.2.2.2.2.2.1 | exact haf.2.2.2.2.2.2.1 | exact haf.2.2.2.2.2.2.2.1 | exact haf.2.2.2.2.2.2.2.2.1); obtain ⟨q, hq⟩ := sel3b k38 l38; simp [frameOf, goFrame, h38]; go_simp; have hn : nq < 10 := hnq; exact ⟨⟨HI.out.1.mono (by omega), HI.out.2⟩, Only.refl _ _, q, rfl⟩
      · simp [frameOf, goFrame]; go_simp; have hn : nq < 10 := hnq; exact ⟨⟨HI.out.1.mono (by omega), HI.out.2⟩, Only.refl _ _, rfl⟩
    case fin =>
      intro nq f wx hnq hI hS hG
      have HI := Lib.hid hI
      have hn9 : nq ≤ 9 := hnq
      have h40 : f 40 = .pointer (some ⟨X, 5, none⟩) := hG 8 _ 40 (by decide) rfl rfl
      obtain ⟨y39, h39⟩ : ∃ y : Int, f 39 = .int .i64 y := hG 7 _ 39 (by decide) rfl rfl
      obtain ⟨-, hbX, -⟩ := HI.out.1.loc _ (.head _)
      obtain ⟨-, hbB, -⟩ := HI.out.1.loc _ (.tail _ (.head _))
      have e0 := cell_of hbX 0
      have k0 := frozen_of hbX 0
      have m0 := cell_of hbB 0
      have n0 := frozen_of hbB 0
      have e1 := cell_of hbX 1
      have k1 := frozen_of hbX 1
      have m1 := cell_of hbB 1
      have n1 := frozen_of hbB 1
      have e2 := cell_of hbX 2
      have k2 := frozen_of hbX 2
      have m2 := cell_of hbB 2
      have n2 := frozen_of hbB 2
      have e3 := cell_of hbX 3
      have k3 := frozen_of hbX 3
      have m3 := cell_of hbB 3
      have n3 := frozen_of hbB 3
      have e4 := cell_of hbX 4
      have k4 := frozen_of hbX 4
      have m4 := cell_of hbB 4
      have n4 := frozen_of hbB 4
      have e5 := cell_of hbX 5
      have k5 := frozen_of hbX 5
      have m5 := cell_of hbB 5
      have n5 := frozen_of hbB 5
      have e6 := cell_of hbX 6
      have k6 := frozen_of hbX 6
      have m6 := cell_of hbB 6
      have n6 := frozen_of hbB 6
      have e7 := cell_of hbX 7
      have k7 := frozen_of hbX 7
      have m7 := cell_of hbB 7
      have n7 := frozen_of hbB 7
      have e8 := cell_of hbX 8
      have k8 := frozen_of hbX 8
      have m8 := cell_of hbB 8
      have n8 := frozen_of hbB 8
      have e9 := cell_of hbX 9
      have k9 := frozen_of hbX 9
      have m9 := cell_of hbB 9
      have n9 := frozen_of hbB 9
      simp at e0 m0 e1 m1 e2 m2 e3 m3 e4 m4 e5 m5 e6 m6 e7 m7 e8 m8 e9 m9
      have hXw := heap_lt hbX
      have hBw := heap_lt hbB
      simp at hXw hBw
      clear hbX hbB
      clear hG hS hnq hI
      change Oper.wp Tryz.prog _ _ _ (fun a' w' => TailOk Tryz.prog _ _ a' w') _
      simp [frameOf, goFrame, TailOk, h39, h40]
      go_simp
      try simp only [TailOk, List.drop]
      clear h39 h40
      obtain ⟨q, rfl⟩ : ∃ q, q = y39 := ⟨_, rfl⟩
      go_wp2_with fail
      refine bodyPost_ret (v := .agg #[.string nm, .string fr, .string tt, .int .i64 dp, .int .i64 ar, .int .i64 q, .slice (some ⟨g6, 0, none⟩) 3 c6, .slice (some ⟨g7, 0, none⟩) 3 c7, .slice (some ⟨g8, 0, none⟩) nb c8, .slice (some ⟨gh, 0, none⟩) 0 0]) (by simp [results, Tryz.results54, go_sem, m0, m1, m2, m3, m4, m5, m6, m7, m8, m9]) rfl ⟨_, rfl, ⟨nm, fr, tt, dp, ar, q, _, _, _, _, _, _, _, _, _, _, _, _, rfl, hs.1⟩, ?_⟩
      first
        | exact (leg_ds (x_set HI.out.1 HXB.out 5 _) HBW.out).mono (by omega)
        | exact ((leg_ds (x_set HI.out.1 HXB.out 5 _) HBW.out).alloc _).mono (by omega)
  · go_upto_region 13 with fail
    go_region_law (first | ((try go_simp); (go_at_call 25; ((with_reducible refine (pick_ds (n := 3) (by first | exact HD.out.drew | exact HD.out) (by omega) (by omega) (by omega)).mono ?_); rintro e wy ⟨y, rfl, y0, y1, hds, hon⟩; have HDY := Lib.hid hds; have HLY := Lib.hid (HL2.out.drew.go hon hRw); have eY := (cell_of (hds.loc _ (.head _)).2.1 6); simp at eY; clear hds hon))) | ((try go_simp); (go_at_call 25; ((with_reducible refine (pick_ds (n := 12) (by first | exact HDY.out | exact HDY.out.drew) (by omega) (by omega) (by omega)).mono ?_); rintro e wv ⟨x, rfl, x0, x1, hds, hon⟩; have HDV := Lib.hid hds; have HLV := Lib.hid (HLY.out.go hon hRw); have s7 : IntKind.i64.wrap (x - 1) = x - 1 := IntWalk.i64_in _ (by omega); obtain ⟨gn, cn, he, -, hgw, -, hcell⟩ := HLV.out.form (by omega); simp only [Value.slice.injEq, Option.some.injEq, Addr.mk.injEq, and_true, true_and] at he; obtain ⟨he1, he2⟩ := he; subst he1; subst he2; obtain ⟨zv, hzv, -, -⟩ := hcell y.toNat (by omega); have fz := HLV.out.frozen y.toNat; have hgB : g6 ≠ B := (fun e => HLV.out.other (hds.loc _ (.tail _ (.head _))).2.1 (by decide) (by rw [← e]; rfl)); obtain ⟨-, hbX, -⟩ := HDV.out.loc _ (.head _); obtain ⟨-, hbB, -⟩ := HDV.out.loc _ (.tail _ (.head _)); have e0 := cell_of hbX 0; have k0 := frozen_of hbX 0; have m0 := cell_of hbB 0; have n0 := frozen_of hbB 0; have e1 := cell_of hbX 1; have k1 := frozen_of hbX 1; have m1 := cell_of hbB 1; have n1 := frozen_of hbB 1; have e2 := cell_of hbX 2; have k2 := frozen_of hbX 2; have m2 := cell_of hbB 2; have n2 := frozen_of hbB 2; have e3 := cell_of hbX 3; have k3 := frozen_of hbX 3; have m3 := cell_of hbB 3; have n3 := frozen_of hbB 3; have e4 := cell_of hbX 4; have k4 := frozen_of hbX 4; have m4 := cell_of hbB 4; have n4 := frozen_of hbB 4; have e5 := cell_of hbX 5; have k5 := frozen_of hbX 5; have m5 := cell_of hbB 5; have n5 := frozen_of hbB 5; have e6 := cell_of hbX 6; have k6 := frozen_of hbX 6; have m6 := cell_of hbB 6; have n6 := frozen_of hbB 6; have e7 := cell_of hbX 7; have k7 := frozen_of hbX 7; have m7 := cell_of hbB 7; have n7 := frozen_of hbB 7; have e8 := cell_of hbX 8; have k8 := frozen_of hbX 8; have m8 := cell_of hbB 8; have n8 := frozen_of hbB 8; have e9 := cell_of hbX 9; have k9 := frozen_of hbX 9; have m9 := cell_of hbB 9; have n9 := frozen_of hbB 9; simp at e0 m0 e1 m1 e2 m2 e3 m3 e4 m4 e5 m5 e6 m6 e7 m7 e8 m8 e9 m9; have hXw := heap_lt hbX; have hBw := heap_lt hbB; simp at hXw hBw; clear hbX hbB; clear hds hon hcell))))
    all_goals
      go_wp2_with fail
      refine bodyPost_ret (v := .agg #[.string nm, .string fr, .string tt, .int .i64 dp, .int .i64 ar, .int .i64 cp, .slice (some ⟨g6, 0, none⟩) 3 c6, .slice (some ⟨g7, 0, none⟩) 3 c7, .slice (some ⟨g8, 0, none⟩) nb c8, .slice (some ⟨gh, 0, none⟩) 0 0]) (by simp [results, Tryz.results54, go_sem, m0, m1, m2, m3, m4, m5, m6, m7, m8, m9]) rfl ⟨_, rfl, ⟨nm, fr, tt, dp, ar, cp, _, _, _, _, _, _, _, _, _, _, _, _, rfl, hs.1⟩, ?_⟩
      first
        | exact (leg_ds (HDV.out.set (L' := []) y.toNat _ hgl.1 rfl (fun p hp => by cases hp)) HBW.out).mono (by omega)
        | exact ((leg_ds (HDV.out.set (L' := []) y.toNat _ hgl.1 rfl (fun p hp => by cases hp)) HBW.out).alloc _).mono (by omega)
  · go_upto_region 15 with fail
    go_region_law (first | ((try go_simp); (go_at_call 25; ((with_reducible refine (pick_ds (n := 3) (by first | exact HD.out.drew | exact HD.out) (by omega) (by omega) (by omega)).mono ?_); rintro e wy ⟨y, rfl, y0, y1, hds, hon⟩; have HDY := Lib.hid hds; have HLY := Lib.hid (HS2.out.drew.go hon hRw); have eY := (cell_of (hds.loc _ (.head _)).2.1 7); simp at eY; clear hds hon))) | ((try go_simp); (go_at_call 25; ((with_reducible refine (pick_ds (n := 12) (by first | exact HDY.out | exact HDY.out.drew) (by omega) (by omega) (by omega)).mono ?_); rintro e wv ⟨x, rfl, x0, x1, hds, hon⟩; have HDV := Lib.hid hds; have HLV := Lib.hid (HLY.out.go hon hRw); have s7 : IntKind.i64.wrap (x - 1) = x - 1 := IntWalk.i64_in _ (by omega); obtain ⟨gn, cn, he, -, hgw, -, hcell⟩ := HLV.out.form (by omega); simp only [Value.slice.injEq, Option.some.injEq, Addr.mk.injEq, and_true, true_and] at he; obtain ⟨he1, he2⟩ := he; subst he1; subst he2; obtain ⟨zv, hzv, -, -⟩ := hcell y.toNat (by omega); have fz := HLV.out.frozen y.toNat; have hgB : g7 ≠ B := (fun e => HLV.out.other (hds.loc _ (.tail _ (.head _))).2.1 (by decide) (by rw [← e]; rfl)); obtain ⟨-, hbX, -⟩ := HDV.out.loc _ (.head _); obtain ⟨-, hbB, -⟩ := HDV.out.loc _ (.tail _ (.head _)); have e0 := cell_of hbX 0; have k0 := frozen_of hbX 0; have m0 := cell_of hbB 0; have n0 := frozen_of hbB 0; have e1 := cell_of hbX 1; have k1 := frozen_of hbX 1; have m1 := cell_of hbB 1; have n1 := frozen_of hbB 1; have e2 := cell_of hbX 2; have k2 := frozen_of hbX 2; have m2 := cell_of hbB 2; have n2 := frozen_of hbB 2; have e3 := cell_of hbX 3; have k3 := frozen_of hbX 3; have m3 := cell_of hbB 3; have n3 := frozen_of hbB 3; have e4 := cell_of hbX 4; have k4 := frozen_of hbX 4; have m4 := cell_of hbB 4; have n4 := frozen_of hbB 4; have e5 := cell_of hbX 5; have k5 := frozen_of hbX 5; have m5 := cell_of hbB 5; have n5 := frozen_of hbB 5; have e6 := cell_of hbX 6; have k6 := frozen_of hbX 6; have m6 := cell_of hbB 6; have n6 := frozen_of hbB 6; have e7 := cell_of hbX 7; have k7 := frozen_of hbX 7; have m7 := cell_of hbB 7; have n7 := frozen_of hbB 7; have e8 := cell_of hbX 8; have k8 := frozen_of hbX 8; have m8 := cell_of hbB 8; have n8 := frozen_of hbB 8; have e9 := cell_of hbX 9; have k9 := frozen_of hbX 9; have m9 := cell_of hbB 9; have n9 := frozen_of hbB 9; simp at e0 m0 e1 m1 e2 m2 e3 m3 e4 m4 e5 m5 e6 m6 e7 m7 e8 m8 e9 m9; have hXw := heap_lt hbX; have hBw := heap_lt hbB; simp at hXw hBw; clear hbX hbB; clear hds hon hcell))))
    all_goals
      go_wp2_with fail
      refine bodyPost_ret (v := .agg #[.string nm, .string fr, .string tt, .int .i64 dp, .int .i64 ar, .int .i64 cp, .slice (some ⟨g6, 0, none⟩) 3 c6, .slice (some ⟨g7, 0, none⟩) 3 c7, .slice (some ⟨g8, 0, none⟩) nb c8, .slice (some ⟨gh, 0, none⟩) 0 0]) (by simp [results, Tryz.results54, go_sem, m0, m1, m2, m3, m4, m5, m6, m7, m8, m9]) rfl ⟨_, rfl, ⟨nm, fr, tt, dp, ar, cp, _, _, _, _, _, _, _, _, _, _, _, _, rfl, hs.1⟩, ?_⟩
      first
        | exact (leg_ds (HDV.out.set (L' := []) y.toNat _ hgl.2.1 rfl (fun p hp => by cases hp)) HBW.out).mono (by omega)
        | exact ((leg_ds (HDV.out.set (L' := []) y.toNat _ hgl.2.1 rfl (fun p hp => by cases hp)) HBW.out).alloc _).mono (by omega)
  · have hX8 : X ≠ g8 := by omega
    have hB8 : B ≠ g8 := fun e => HB2.out.other (HD.out.loc _ (.tail _ (.head _))).2.1 (by decide) (by rw [e]; rfl)
    obtain ⟨i0, hi0, hz0, hz1, hz2⟩ := info_parts infoI
    obtain ⟨xs, hrow, -⟩ := HB2.out
    have HRW := Lib.hid hrow
    clear hrow
    go_upto_region 17 with fail
    go_region_law (first | ((try go_simp); (go_at_call 25; ((with_reducible refine (pick_ds (n := 2000) (by first | exact HD.out.drew | exact HD.out) (by omega) (by omega) (by omega)).mono ?_); rintro e wy ⟨y, rfl, y0, y1, hds, hon⟩; have HDY := Lib.hid hds; have HRY := Lib.hid (HRW.out.drew.kept hon (Or.inr (by simp [Value.ownBlock]; omega))); have s7 : IntKind.i64.wrap (y - 1) = y - 1 := IntWalk.i64_in _ (by omega); have e8 := cell_of (hds.loc _ (.head _)).2.1 8; have hXw := heap_lt (hds.loc _ (.head _)).2.1; simp at e8 hXw; clear hds hon))) | (refine step_append_lies _ rfl (.tmp 64) (.tmp 68) 77 rfl w1.heap.size 3 i0 (.int .i64 0) 1 8 Tryz.underlying77 hi0 hz0 hz1 hz2 rfl (by decide) (.slice (some ⟨g8, 0, none⟩) nb c8) nb xs (by simp [Act.eval]) (HRY.out.kept (World.grownBy_alloc _ _ none) (Or.inr (by simp [Value.ownBlock]))) ⟨wy.heap.size, 0, none⟩ 1 1 [.int .i64 (y - 1)] (by simp [Act.eval]) rfl (news_1 _ _ _) (by simp [Value.oneCell']) (by decide) (by unfold maxLen; omega) (by omega) (by simp; omega) (wy.heap.size + 1) (by simp) ?_; intro g' c' w4 hown hgrow hat hlt4; have HD4 := Lib.hid (grow_ds HDY.out hgrow hgl.2.2 hX8 hB8); clear hown hgrow hat; obtain ⟨-, hbX, -⟩ := HD4.out.loc _ (.head _); obtain ⟨-, hbB, -⟩ := HD4.out.loc _ (.tail _ (.head _)); have e0 := cell_of hbX 0; have k0 := frozen_of hbX 0; have m0 := cell_of hbB 0; have n0 := frozen_of hbB 0; have e1 := cell_of hbX 1; have k1 := frozen_of hbX 1; have m1 := cell_of hbB 1; have n1 := frozen_of hbB 1; have e2 := cell_of hbX 2; have k2 := frozen_of hbX 2; have m2 := cell_of hbB 2; have n2 := frozen_of hbB 2; have e3 := cell_of hbX 3; have k3 := frozen_of hbX 3; have m3 := cell_of hbB 3; have n3 := frozen_of hbB 3; have e4 := cell_of hbX 4; have k4 := frozen_of hbX 4; have m4 := cell_of hbB 4; have n4 := frozen_of hbB 4; have e5 := cell_of hbX 5; have k5 := frozen_of hbX 5; have m5 := cell_of hbB 5; have n5 := frozen_of hbB 5; have e6 := cell_of hbX 6; have k6 := frozen_of hbX 6; have m6 := cell_of hbB 6; have n6 := frozen_of hbB 6; have e7 := cell_of hbX 7; have k7 := frozen_of hbX 7; have m7 := cell_of hbB 7; have n7 := frozen_of hbB 7; have e8 := cell_of hbX 8; have k8 := frozen_of hbX 8; have m8 := cell_of hbB 8; have n8 := frozen_of hbB 8; have e9 := cell_of hbX 9; have k9 := frozen_of hbX 9; have m9 := cell_of hbB 9; have n9 := frozen_of hbB 9; simp at e0 m0 e1 m1 e2 m2 e3 m3 e4 m4 e5 m5 e6 m6 e7 m7 e8 m8 e9 m9; have hXw := heap_lt hbX; have hBw := heap_lt hbB; simp at hXw hBw; clear hbX hbB))
    all_goals
      go_wp2_with fail
      refine bodyPost_ret (v := .agg #[.string nm, .string fr, .string tt, .int .i64 dp, .int .i64 ar, .int .i64 cp, .slice (some ⟨g6, 0, none⟩) 3 c6, .slice (some ⟨g7, 0, none⟩) 3 c7, .slice (some ⟨g', 0, none⟩) (nb + 1) c', .slice (some ⟨gh, 0, none⟩) 0 0]) (by simp [results, Tryz.results54, go_sem, m0, m1, m2, m3, m4, m5, m6, m7, m8, m9]) rfl ⟨_, rfl, ⟨nm, fr, tt, dp, ar, cp, _, _, _, _, _, _, _, _, _, _, _, _, rfl, hs.1⟩, ?_⟩
      first
        | exact (leg_ds (x_set HD4.out HXB.out 8 _) HBW.out).mono (by omega)
        | exact ((leg_ds (x_set HD4.out HXB.out 8 _) HBW.out).alloc _).mono (by omega)
  · have hXh : X ≠ gh := fun e => row_ne HH2.out (HD.out.loc _ (.head _)).2.1 (by decide) (by rw [e]; rfl)
    have hBh : B ≠ gh := fun e => row_ne HH2.out (HD.out.loc _ (.tail _ (.head _))).2.1 (by decide) (by rw [e]; rfl)
    have hghw : w.heap.size ≤ gh := by have := (HH2.out.lt gh rfl).1; omega
    have hghR : gh ≠ R := by omega
    obtain ⟨i0, hi0, hz0, hz1, hz2⟩ := info_parts infoHold
    have HRW := HH2
    go_upto_region 19 with fail
    go_region_law (first | ((try go_simp); (go_at_call 25; ((with_reducible refine (pick_ds (n := 9) (by first | exact HD.out.drew | exact HD.out) (by omega) (by omega) (by omega)).mono ?_); rintro e wy ⟨y, rfl, y0, y1, hds, hon⟩; have HDY := Lib.hid hds; have HRY := Lib.hid (HRW.out.drew.kept hon (Or.inr (by simp [Value.ownBlock]; omega))); have e9 := cell_of (hds.loc _ (.head _)).2.1 9; have hXw := heap_lt (hds.loc _ (.head _)).2.1; simp at e9 hXw; clear hds hon))) | ((try go_simp); (go_at_call 25; ((with_reducible refine (pick_ds (n := 4) (by first | exact HDY.out.drew | exact HDY.out) (by omega) (by omega) (by omega)).mono ?_); rintro e wv ⟨x, rfl, x0, x1, hds, hon⟩; have HDV := Lib.hid hds; have HRV := Lib.hid (HRY.out.kept hon (Or.inr (by simp [Value.ownBlock]; omega))); have e9 := cell_of (hds.loc _ (.head _)).2.1 9; have hXw := heap_lt (hds.loc _ (.head _)).2.1; simp at e9 hXw; clear hds hon))) | ((try go_simp); (go_at_call 25; ((with_reducible refine (pick_ds (n := 5) (by first | exact HDV.out.drew | exact HDV.out) (by omega) (by omega) (by omega)).mono ?_); rintro e wu ⟨z, rfl, z0, z1, hds, hon⟩; have HDU := Lib.hid hds; have HRU := Lib.hid (HRV.out.kept hon (Or.inr (by simp [Value.ownBlock]; omega))); have s7 : IntKind.i64.wrap (z - 2) = z - 2 := IntWalk.i64_in _ (by omega); have e9 := cell_of (hds.loc _ (.head _)).2.1 9; have hXw := heap_lt (hds.loc _ (.head _)).2.1; simp at e9 hXw; clear hds hon))) | (refine step_append_lies _ rfl (.tmp 74) (.tmp 83) 78 rfl w1.heap.size 113 i0 (.agg #[.int .i64 0, .int .i64 0, .int .i64 0]) 3 24 Tryz.underlying78 hi0 hz0 hz1 hz2 rfl (by decide) (.slice (some ⟨gh, 0, none⟩) 0 0) 0 [] (by simp [Act.eval]) (HRU.out.kept (World.grownBy_alloc _ _ none) (Or.inr (by simp [Value.ownBlock]))) ⟨wu.heap.size, 0, none⟩ 1 1 [.int .i64 y, .int .i64 x, .int .i64 (z - 2)] (by simp [Act.eval]) rfl (news_3h _ _ _ _ _) (by simp [Value.oneCell']) (by decide) (by unfold maxLen; omega) (by omega) (by simp; omega) (wu.heap.size + 1) (by simp) ?_; intro g' c' w4 hown hgrow hat hlt4; have HD4 := Lib.hid (grow_ds HDU.out hgrow hghw hXh hBh); clear hown hgrow hat; obtain ⟨-, hbX, -⟩ := HD4.out.loc _ (.head _); obtain ⟨-, hbB, -⟩ := HD4.out.loc _ (.tail _ (.head _)); have e0 := cell_of hbX 0; have k0 := frozen_of hbX 0; have m0 := cell_of hbB 0; have n0 := frozen_of hbB 0; have e1 := cell_of hbX 1; have k1 := frozen_of hbX 1; have m1 := cell_of hbB 1; have n1 := frozen_of hbB 1; have e2 := cell_of hbX 2; have k2 := frozen_of hbX 2; have m2 := cell_of hbB 2; have n2 := frozen_of hbB 2; have e3 := cell_of hbX 3; have k3 := frozen_of hbX 3; have m3 := cell_of hbB 3; have n3 := frozen_of hbB 3; have e4 := cell_of hbX 4; have k4 := frozen_of hbX 4; have m4 := cell_of hbB 4; have n4 := frozen_of hbB 4; have e5 := cell_of hbX 5; have k5 := frozen_of hbX 5; have m5 := cell_of hbB 5; have n5 := frozen_of hbB 5; have e6 := cell_of hbX 6; have k6 := frozen_of hbX 6; have m6 := cell_of hbB 6; have n6 := frozen_of hbB 6; have e7 := cell_of hbX 7; have k7 := frozen_of hbX 7; have m7 := cell_of hbB 7; have n7 := frozen_of hbB 7; have e8 := cell_of hbX 8; have k8 := frozen_of hbX 8; have m8 := cell_of hbB 8; have n8 := frozen_of hbB 8; have e9 := cell_of hbX 9; have k9 := frozen_of hbX 9; have m9 := cell_of hbB 9; have n9 := frozen_of hbB 9; simp at e0 m0 e1 m1 e2 m2 e3 m3 e4 m4 e5 m5 e6 m6 e7 m7 e8 m8 e9 m9; have hXw := heap_lt hbX; have hBw := heap_lt hbB; simp at hXw hBw; clear hbX hbB))
    all_goals
      go_wp2_with fail
      refine bodyPost_ret (v := .agg #[.string nm, .string fr, .string tt, .int .i64 dp, .int .i64 ar, .int .i64 cp, .slice (some ⟨g6, 0, none⟩) 3 c6, .slice (some ⟨g7, 0, none⟩) 3 c7, .slice (some ⟨g8, 0, none⟩) nb c8, .slice (some ⟨g', 0, none⟩) 1 c']) (by simp [results, Tryz.results54, go_sem, m0, m1, m2, m3, m4, m5, m6, m7, m8, m9]) rfl ⟨_, rfl, ⟨nm, fr, tt, dp, ar, cp, _, _, _, _, _, _, _, _, _, _, _, _, rfl, hs.1⟩, ?_⟩
      first
        | exact (leg_ds (x_set HD4.out HXB.out 9 _) HBW.out).mono (by omega)
        | exact ((leg_ds (x_set HD4.out HXB.out 9 _) HBW.out).alloc _).mono (by omega)
  · go_wp2_with fail
    refine bodyPost_ret (v := .agg #[.string nm, .string fr, .string tt, .int .i64 dp, .int .i64 ar, .int .i64 cp, .slice (some ⟨g6, 1, none⟩) 2 (c6 - 1), .slice (some ⟨g7, 0, none⟩) 3 c7, .slice (some ⟨g8, 0, none⟩) nb c8, .slice (some ⟨gh, 0, none⟩) 0 0]) (by simp [results, Tryz.results54, go_sem, m0, m1, m2, m3, m4, m5, m6, m7, m8, m9]) rfl ⟨_, rfl, ⟨nm, fr, tt, dp, ar, cp, _, _, _, _, _, _, _, _, _, _, _, _, rfl, hs.1⟩, ?_⟩
    first
      | exact (leg_ds (x_set HD.out HXB.out 6 _) HBW.out).mono (by omega)
      | exact ((leg_ds (x_set HD.out HXB.out 6 _) HBW.out).alloc _).mono (by omega)

end My
end Go.Proofs.YtjmlekhgnbbjoaaGreatDoor
