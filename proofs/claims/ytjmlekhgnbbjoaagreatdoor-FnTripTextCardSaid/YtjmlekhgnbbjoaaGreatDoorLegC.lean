/- A copy of a leg. -/
import Derived.Test.YtjmlekhgnbbjoaaGreatDoorLegP
namespace Go.Proofs.YtjmlekhgnbbjoaaGreatDoor
open Go.RowKit Go.Deep
set_option linter.unusedVariables false
namespace My

/-- A row is copied, and its copy is stored. -/
theorem copy_push {w0 wX w4 : World} {R K X B n g' c' f : Nat} {a : Option Addr} {len cap : Nat} {cur cb : Array Value} {o : Obj} {xs : List Value}
    (hd : DS w0 noS R K a len cap [(X, .cells cur 80 (0, 0)), (B, .cells cb 80 (0, 0))] wX) (hXB : B ≠ X) (hx : ∀ x, x ∈ xs → ∃ z : Int, x = .int .i64 z ∧ 0 ≤ z ∧ z ≤ 1000)
    (hown : w4.ownsRow w0.heap.size 3 1 (.slice (some ⟨g', 0, none⟩) n c') n xs) (hgrow : (wX.alloc o).grownBy w4 (Value.ownBlock (.slice (some ⟨wX.heap.size, 0, none⟩) 0 0))) :
    DS w0 noS R K a len cap [(X, .cells cur 80 (0, 0)), (B, .cells cb 80 (0, 0))] w4 ∧
    IR (w4.setCell ⟨X, f, none⟩ (.slice (some ⟨g', 0, none⟩) n c')) w0.heap.size (.slice (some ⟨g', 0, none⟩) n c') n ∧
    DS w0 noS R K a len cap [(X, .cells (cur.setIfInBounds f (.slice (some ⟨g', 0, none⟩) n c')) 80 (0, 0)), (B, .cells cb 80 (0, 0))] (w4.setCell ⟨X, f, none⟩ (.slice (some ⟨g', 0, none⟩) n c')) ∧
    ∀ b v m, IR wX b v m → IR (w4.setCell ⟨X, f, none⟩ (.slice (some ⟨g', 0, none⟩) n c')) b v m := by
  obtain ⟨hX0, hXb, -⟩ := hd.loc _ (.head _)
  obtain ⟨hB0, hBb, -⟩ := hd.loc _ (.tail _ (.head _))
  have hX0 : w0.heap.size ≤ X := hX0
  have hXl := heap_lt hXb
  have hBl := heap_lt hBb
  have hXl : X < wX.heap.size := hXl
  have hBl : B < wX.heap.size := hBl
  have hd4 := (hd.alloc o).grow hgrow (fun q hq => by
    simp [Value.ownBlock] at hq
    subst hq
    refine ⟨hd.on.size, rfl, fun p hp => ?_⟩
    rcases List.mem_cons.1 hp with rfl | hp
    · show X ≠ _; omega
    · rw [List.mem_singleton] at hp
      subst hp
      show B ≠ _
      omega)
  obtain ⟨-, hXb4, -⟩ := hd4.loc _ (.head _)
  have hi4 : IR w4 w0.heap.size (.slice (some ⟨g', 0, none⟩) n c') n := ⟨xs, hown, hx⟩
  refine ⟨hd4, hi4.set f _ (hi4.other hXb4 (by decide)), ?_, ?_⟩
  · have hs := hd4.set (L' := [(B, .cells cb 80 (0, 0))]) f (.slice (some ⟨g', 0, none⟩) n c') hX0 rfl (fun p hp => by
      rw [List.mem_singleton] at hp
      subst hp
      exact ⟨.tail _ (.head _), hXB⟩)
    exact hs.add hX0 (blk_set hXb4 f _) rfl
  · intro b v m hv
    have hv4 : IR w4 b v m := (hv.alloc o).kept hgrow (fun q hq => by
      simp [Value.ownBlock] at hq
      subst hq
      intro e
      obtain ⟨ys, hy, _⟩ := hv
      have := (hy.lt _ e).2
      omega)
    exact hv4.set f _ (hv4.other hXb4 (by decide))

set_option maxRecDepth 100000 in
set_option maxHeartbeats 4000000 in
theorem l6Copy_any {R K : Nat} {a : Option Addr} {len cap : Nat} {w : World} {base : Nat} {D : Int} {v : Value} (h : DS w noS R K a len cap [] w) (hv : LegOK w base D (.slice none 0 0) v) :
    Calls Tryz.prog 75 #[v] w fun e w' => ∃ v' gh, e = .returned v' ∧ LegOK w' w.heap.size D (.slice (some ⟨gh, 0, none⟩) 0 0) v' ∧ w'.ownsRow w.heap.size 113 3 (.slice (some ⟨gh, 0, none⟩) 0 0) 0 [] ∧ DS w noS R K a len cap [] w' := by
  obtain ⟨i0, hi0, hz0, hz1, hz2⟩ := info_parts infoI
  obtain ⟨nm, fr, tt, dp, ar, cp, vl, vs, vb, nb, rfl, hs, hd, ha, hc, hl, hss, hnb, hb⟩ := hv
  obtain ⟨g1, c1, rfl, hg1, hg1w, hc1, -⟩ := hl.form (by omega)
  obtain ⟨g2, c2, rfl, hg2, hg2w, hc2, -⟩ := hss.form (by omega)
  obtain ⟨g3, c3, rfl, hg3, hg3w, hc3, -⟩ := hb.form (by omega)
  have HD := Lib.hid ((h.box #[.string nm, .string fr, .string tt, .int .i64 dp, .int .i64 ar, .int .i64 cp, .slice (some ⟨g1, 0, none⟩) 3 c1, .slice (some ⟨g2, 0, none⟩) 3 c2, .slice (some ⟨g3, 0, none⟩) nb c3, .slice none 0 0] 80).box #[.string ⟨#[]⟩, .string ⟨#[]⟩, .string ⟨#[]⟩, .int .i64 0, .int .i64 0, .int .i64 0, .slice none 0 0, .slice none 0 0, .slice none 0 0, .slice none 0 0] 80)
  have HL := Lib.hid ((hl.alloc (.cells #[.string nm, .string fr, .string tt, .int .i64 dp, .int .i64 ar, .int .i64 cp, .slice (some ⟨g1, 0, none⟩) 3 c1, .slice (some ⟨g2, 0, none⟩) 3 c2, .slice (some ⟨g3, 0, none⟩) nb c3, .slice none 0 0] 80)).alloc (.cells #[.string ⟨#[]⟩, .string ⟨#[]⟩, .string ⟨#[]⟩, .int .i64 0, .int .i64 0, .int .i64 0, .slice none 0 0, .slice none 0 0, .slice none 0 0, .slice none 0 0] 80))
  have HS := Lib.hid ((hss.alloc (.cells #[.string nm, .string fr, .string tt, .int .i64 dp, .int .i64 ar, .int .i64 cp, .slice (some ⟨g1, 0, none⟩) 3 c1, .slice (some ⟨g2, 0, none⟩) 3 c2, .slice (some ⟨g3, 0, none⟩) nb c3, .slice none 0 0] 80)).alloc (.cells #[.string ⟨#[]⟩, .string ⟨#[]⟩, .string ⟨#[]⟩, .int .i64 0, .int .i64 0, .int .i64 0, .slice none 0 0, .slice none 0 0, .slice none 0 0, .slice none 0 0] 80))
  have HB := Lib.hid ((hb.alloc (.cells #[.string nm, .string fr, .string tt, .int .i64 dp, .int .i64 ar, .int .i64 cp, .slice (some ⟨g1, 0, none⟩) 3 c1, .slice (some ⟨g2, 0, none⟩) 3 c2, .slice (some ⟨g3, 0, none⟩) nb c3, .slice none 0 0] 80)).alloc (.cells #[.string ⟨#[]⟩, .string ⟨#[]⟩, .string ⟨#[]⟩, .int .i64 0, .int .i64 0, .int .i64 0, .slice none 0 0, .slice none 0 0, .slice none 0 0, .slice none 0 0] 80))
  have hR := h.lt
  go_enter Tryz.func75, Tryz.ntmps75
  go_upto_region 1 with fail
  obtain ⟨w1, hw1⟩ : ∃ w1, w1 = (w.alloc (.cells #[.string nm, .string fr, .string tt, .int .i64 dp, .int .i64 ar, .int .i64 cp, .slice (some ⟨g1, 0, none⟩) 3 c1, .slice (some ⟨g2, 0, none⟩) 3 c2, .slice (some ⟨g3, 0, none⟩) nb c3, .slice none 0 0] 80)).alloc (.cells #[.string ⟨#[]⟩, .string ⟨#[]⟩, .string ⟨#[]⟩, .int .i64 0, .int .i64 0, .int .i64 0, .slice none 0 0, .slice none 0 0, .slice none 0 0, .slice none 0 0] 80) := ⟨_, rfl⟩
  have hsz1 : (w.alloc (.cells #[.string nm, .string fr, .string tt, .int .i64 dp, .int .i64 ar, .int .i64 cp, .slice (some ⟨g1, 0, none⟩) 3 c1, .slice (some ⟨g2, 0, none⟩) 3 c2, .slice (some ⟨g3, 0, none⟩) nb c3, .slice none 0 0] 80)).heap.size = w.heap.size + 1 := by simp
  rw [hsz1, ← hw1] at HD
  rw [← hw1] at HL HS HB
  rw [← hw1]
  -- the box lies ahead of the result's
  have HD1 := Lib.hid (show DS w noS R K a len cap [(w.heap.size, .cells #[.string nm, .string fr, .string tt, .int .i64 dp, .int .i64 ar, .int .i64 cp, .slice (some ⟨g1, 0, none⟩) 3 c1, .slice (some ⟨g2, 0, none⟩) 3 c2, .slice (some ⟨g3, 0, none⟩) nb c3, .slice none 0 0] 80 (0, 0)), (w.heap.size + 1, .cells #[.string ⟨#[]⟩, .string ⟨#[]⟩, .string ⟨#[]⟩, .int .i64 0, .int .i64 0, .int .i64 0, .slice none 0 0, .slice none 0 0, .slice none 0 0, .slice none 0 0] 80 (0, 0))] w1 from HD.out.less (fun p hp => by
    rcases List.mem_cons.1 hp with rfl | hp
    · exact .tail _ (.head _)
    · rw [List.mem_singleton] at hp
      subst hp
      exact .head _))
  obtain ⟨X, hX⟩ : ∃ X, X = w.heap.size := ⟨_, rfl⟩
  obtain ⟨B, hB⟩ : ∃ B, B = w.heap.size + 1 := ⟨_, rfl⟩
  rw [← hB, ← hX] at HD1
  rw [← hB, ← hX]
  have hXB : B ≠ X := by omega
  have HXB := Lib.hid hXB
  clear hX hB hw1 hsz1 HD h hl hss hb hXB
  obtain ⟨xs0, hxl, hnw, hone, hxs⟩ := (HL.out.alloc (.cells #[] 3)).news
  obtain ⟨-, hbX, -⟩ := HD1.out.loc _ (.head _)
  have c6 := cell_of hbX 6
  have hXw := heap_lt hbX
  simp at c6 hXw
  have hwz := HD1.out.on.size
  have HX := Lib.hid hxs
  have HNW := Lib.hid hnw
  have HONE := Lib.hid hone
  clear hbX hxs hnw hone
  go_upto_region 2 with (at_builtin; go_loud (refine wpList_append_lies _ rfl (.tmp 3) (.tmp 5) 77 rfl w.heap.size 3 i0 (.int .i64 0) 1 8 Tryz.underlying77 hi0 hz0 hz1 hz2 rfl (by decide) (.slice (some ⟨w1.heap.size, 0, none⟩) 0 0) 0 [] rfl (World.ownsRow_lit w1 #[] 0 hwz (by simp [maxLen]) rfl) ⟨g1, 0, none⟩ 3 c1 xs0 rfl (by omega) HNW.out HONE.out (by omega) (by unfold maxLen; omega) (by omega) (by simp; omega) (w1.heap.size + 1) (by simp) ?_; intro h0 d0 w4 hown hgrow hat hlt4; simp only [Nat.zero_add, List.nil_append] at hown; have HP := Lib.hid (copy_push (f := 6) HD1.out HXB.out HX.out hown hgrow); clear hown hgrow hat hXw c6; obtain ⟨-, hbX, -⟩ := HP.out.1.loc _ (.head _); have c6 := cell_of hbX 6; have f6 := frozen_of hbX 6; simp at c6; clear hbX))
  have HN0 := Lib.hid HP.out.2.1
  have HDn := Lib.hid HP.out.2.2.1
  have HS' := Lib.hid (HP.out.2.2.2 _ _ _ HS.out)
  clear HS
  have HS := HS'
  clear HS'
  have HB' := Lib.hid (HP.out.2.2.2 _ _ _ HB.out)
  clear HB
  have HB := HB'
  clear HB'
  obtain ⟨y2, hw⟩ : ∃ y2, y2 = w4.setCell ⟨X, 6, none⟩ (.slice (some ⟨h0, 0, none⟩) 3 d0) := ⟨_, rfl⟩
  rw [← hw] at HN0 HDn HS HB
  try rw [← hw]
  clear hw HP HX HNW HONE hwz hxl HD1 f6 c6
  have HD2 := HDn
  clear HDn
  obtain ⟨xs1, hxl, hnw, hone, hxs⟩ := (HS.out.alloc (.cells #[] 3)).news
  obtain ⟨-, hbX, -⟩ := HD2.out.loc _ (.head _)
  have c7 := cell_of hbX 7
  have hXw := heap_lt hbX
  simp at c7 hXw
  have hwz := HD2.out.on.size
  have HX := Lib.hid hxs
  have HNW := Lib.hid hnw
  have HONE := Lib.hid hone
  clear hbX hxs hnw hone
  go_upto_region 3 with (at_builtin; go_loud (refine wpList_append_lies _ rfl (.tmp 8) (.tmp 10) 77 rfl w.heap.size 3 i0 (.int .i64 0) 1 8 Tryz.underlying77 hi0 hz0 hz1 hz2 rfl (by decide) (.slice (some ⟨y2.heap.size, 0, none⟩) 0 0) 0 [] rfl (World.ownsRow_lit y2 #[] 0 hwz (by simp [maxLen]) rfl) ⟨g2, 0, none⟩ 3 c2 xs1 rfl (by omega) HNW.out HONE.out (by omega) (by unfold maxLen; omega) (by omega) (by simp; omega) (y2.heap.size + 1) (by simp) ?_; intro h1 d1 w4 hown hgrow hat hlt4; simp only [Nat.zero_add, List.nil_append] at hown; have HP := Lib.hid (copy_push (f := 7) HD2.out HXB.out HX.out hown hgrow); clear hown hgrow hat hXw c7; obtain ⟨-, hbX, -⟩ := HP.out.1.loc _ (.head _); have c7 := cell_of hbX 7; have f7 := frozen_of hbX 7; simp at c7; clear hbX))
  have HN1 := Lib.hid HP.out.2.1
  have HDn := Lib.hid HP.out.2.2.1
  have HB' := Lib.hid (HP.out.2.2.2 _ _ _ HB.out)
  clear HB
  have HB := HB'
  clear HB'
  have HN0' := Lib.hid (HP.out.2.2.2 _ _ _ HN0.out)
  clear HN0
  have HN0 := HN0'
  clear HN0'
  obtain ⟨y3, hw⟩ : ∃ y3, y3 = w4.setCell ⟨X, 7, none⟩ (.slice (some ⟨h1, 0, none⟩) 3 d1) := ⟨_, rfl⟩
  rw [← hw] at HN1 HDn HB HN0
  try rw [← hw]
  clear hw HP HX HNW HONE hwz hxl HD2 f7 c7
  have HD3 := HDn
  clear HDn
  obtain ⟨xs2, hxl, hnw, hone, hxs⟩ := (HB.out.alloc (.cells #[] 3)).news
  obtain ⟨-, hbX, -⟩ := HD3.out.loc _ (.head _)
  have c8 := cell_of hbX 8
  have hXw := heap_lt hbX
  simp at c8 hXw
  have hwz := HD3.out.on.size
  have HX := Lib.hid hxs
  have HNW := Lib.hid hnw
  have HONE := Lib.hid hone
  clear hbX hxs hnw hone
  go_upto_region 4 with (at_builtin; go_loud (refine wpList_append_lies _ rfl (.tmp 13) (.tmp 15) 77 rfl w.heap.size 3 i0 (.int .i64 0) 1 8 Tryz.underlying77 hi0 hz0 hz1 hz2 rfl (by decide) (.slice (some ⟨y3.heap.size, 0, none⟩) 0 0) 0 [] rfl (World.ownsRow_lit y3 #[] 0 hwz (by simp [maxLen]) rfl) ⟨g3, 0, none⟩ nb c3 xs2 rfl (by omega) HNW.out HONE.out (by omega) (by unfold maxLen; omega) (by omega) (by simp; omega) (y3.heap.size + 1) (by simp) ?_; intro h2 d2 w4 hown hgrow hat hlt4; simp only [Nat.zero_add, List.nil_append] at hown; have HP := Lib.hid (copy_push (f := 8) HD3.out HXB.out HX.out hown hgrow); clear hown hgrow hat hXw c8; obtain ⟨-, hbX, -⟩ := HP.out.1.loc _ (.head _); have c8 := cell_of hbX 8; have f8 := frozen_of hbX 8; simp at c8; clear hbX))
  have HN2 := Lib.hid HP.out.2.1
  have HDn := Lib.hid HP.out.2.2.1
  have HN0' := Lib.hid (HP.out.2.2.2 _ _ _ HN0.out)
  clear HN0
  have HN0 := HN0'
  clear HN0'
  have HN1' := Lib.hid (HP.out.2.2.2 _ _ _ HN1.out)
  clear HN1
  have HN1 := HN1'
  clear HN1'
  obtain ⟨y4, hw⟩ : ∃ y4, y4 = w4.setCell ⟨X, 8, none⟩ (.slice (some ⟨h2, 0, none⟩) nb d2) := ⟨_, rfl⟩
  rw [← hw] at HN2 HDn HN0 HN1
  try rw [← hw]
  clear hw HP HX HNW HONE hwz hxl HD3 f8 c8
  have HD4 := HDn
  clear HDn
  simp at HD4
  obtain ⟨-, hbX, -⟩ := HD4.out.loc _ (.head _)
  obtain ⟨hB1, hbB, -⟩ := HD4.out.loc _ (.tail _ (.head _))
  have e0 := cell_of hbX 0
  have k0 := frozen_of hbX 0
  have m0 := cell_of hbB 0
  have n0 := frozen_of hbB 0
  have e1 := cell_of hbX 1
  have k1 := frozen_of hbX 1
  have m1 := cell_of hbB 1
  have n1 := frozen_of hbB 1
  have e2 := cell_of hbX 2
  have k2 := frozen_of hbX 2
  have m2 := cell_of hbB 2
  have n2 := frozen_of hbB 2
  have e3 := cell_of hbX 3
  have k3 := frozen_of hbX 3
  have m3 := cell_of hbB 3
  have n3 := frozen_of hbB 3
  have e4 := cell_of hbX 4
  have k4 := frozen_of hbX 4
  have m4 := cell_of hbB 4
  have n4 := frozen_of hbB 4
  have e5 := cell_of hbX 5
  have k5 := frozen_of hbX 5
  have m5 := cell_of hbB 5
  have n5 := frozen_of hbB 5
  have e6 := cell_of hbX 6
  have k6 := frozen_of hbX 6
  have m6 := cell_of hbB 6
  have n6 := frozen_of hbB 6
  have e7 := cell_of hbX 7
  have k7 := frozen_of hbX 7
  have m7 := cell_of hbB 7
  have n7 := frozen_of hbB 7
  have e8 := cell_of hbX 8
  have k8 := frozen_of hbX 8
  have m8 := cell_of hbB 8
  have n8 := frozen_of hbB 8
  have e9 := cell_of hbX 9
  have k9 := frozen_of hbX 9
  have m9 := cell_of hbB 9
  have n9 := frozen_of hbB 9
  simp at e0 e1 e2 e3 e4 e5 e6 e7 e8 e9 m0 m1 m2 m3 m4 m5 m6 m7 m8 m9
  have hXw := heap_lt hbX
  have hBw := heap_lt hbB
  simp at hXw hBw
  have hXB := HXB.out
  have HBB := Lib.hid hbB
  have HBX := Lib.hid hbX
  have hBw0 : w.heap.size ≤ B := hB1
  clear hbX hbB hB1
  go_wp2_with fail
  have hXne := HXB.out
  have hbS : (y4.setCell ⟨X, 9, none⟩ (.slice (some ⟨y4.heap.size, 0, none⟩) 0 0)).heap[B]? = _ := (blk_setCell_other _ _ _ _ (by simp; omega)).trans HBB.out
  refine bodyPost_ret (v := .agg #[.string nm, .string fr, .string tt, .int .i64 dp, .int .i64 ar, .int .i64 cp, .slice (some ⟨h0, 0, none⟩) 3 d0, .slice (some ⟨h1, 0, none⟩) 3 d1, .slice (some ⟨h2, 0, none⟩) nb d2, .slice (some ⟨y4.heap.size, 0, none⟩) 0 0]) (by simp [results, Tryz.results75, go_sem, m0, m1, m2, m3, m4, m5, m6, m7, m8, m9, hBw]) rfl ⟨_, rfl, y4.heap.size, ⟨nm, fr, tt, dp, ar, cp, _, _, _, nb, rfl, hs, hd, ha, hc, ?_, ?_, hnb, ?_⟩, ?_, ?_⟩
  · exact (leg_out (HN0.out.set 9 _ (HN0.out.other HBX.out (by decide))) hbS).alloc _
  · exact (leg_out (HN1.out.set 9 _ (HN1.out.other HBX.out (by decide))) hbS).alloc _
  · exact (leg_out (HN2.out.set 9 _ (HN2.out.other HBX.out (by decide))) hbS).alloc _
  · have hl := World.ownsRow_lit (base := w.heap.size) (e := 113) (size := 3) ((((((((((((y4.setCell ⟨X, 9, none⟩ (.slice (some ⟨y4.heap.size, 0, none⟩) 0 0)).setCell ⟨B, 0, none⟩ (.string nm)).setCell ⟨B, 1, none⟩ (.string fr)).setCell ⟨B, 2, none⟩ (.string tt)).setCell ⟨B, 3, none⟩ (.int .i64 dp)).setCell ⟨B, 4, none⟩ (.int .i64 ar)).setCell ⟨B, 5, none⟩ (.int .i64 cp)).setCell ⟨B, 6, none⟩ (.slice (some ⟨h0, 0, none⟩) 3 d0)).setCell ⟨B, 7, none⟩ (.slice (some ⟨h1, 0, none⟩) 3 d1)).setCell ⟨B, 8, none⟩ (.slice (some ⟨h2, 0, none⟩) nb d2)).setCell ⟨B, 9, none⟩ (.slice (some ⟨y4.heap.size, 0, none⟩) 0 0))) #[] 0 (by have := HD4.out.on.size; simpa [World.setCell] using this) (by simp [maxLen]) rfl
    simpa [World.setCell] using hl
  · have hXw0 : w.heap.size ≤ X := (HD4.out.loc _ (.head _)).1
    exact (leg_ds (HD4.out.set (L' := []) 9 _ hXw0 rfl (fun p hp => by cases hp)) hBw0).alloc _

end My
end Go.Proofs.YtjmlekhgnbbjoaaGreatDoor
