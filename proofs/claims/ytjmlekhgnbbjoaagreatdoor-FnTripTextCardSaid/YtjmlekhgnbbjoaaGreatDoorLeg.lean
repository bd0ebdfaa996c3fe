/- The drawing function of legs. -/
import Derived.Test.YtjmlekhgnbbjoaaGreatDoorLegP
namespace Go.Proofs.YtjmlekhgnbbjoaaGreatDoor
open Go.RowKit Go.Deep
set_option linter.unusedVariables false
namespace My

set_option maxRecDepth 100000 in
set_option maxHeartbeats 40000000 in
theorem l14Leg_any {R K : Nat} {a : Option Addr} {len cap : Nat} {w : World} (nm fr tt : ByteArray) (dp : Int) (hK : K ≤ 1000000) (h : DS w noS R K a len cap [] w) (hs : nm.size ≤ 10 ∧ fr.size ≤ 10 ∧ tt.size ≤ 10) (hd : 0 ≤ dp ∧ dp ≤ 10000) :
    Calls Tryz.prog 74 #[.pointer (some ⟨R, 0, none⟩), .string nm, .string fr, .string tt, .int .i64 dp] w fun e w' => ∃ v, e = .returned v ∧ LegOK w' w.heap.size dp (.slice none 0 0) v ∧ DS w noS R (K + 100) a len cap [] w' := by
  obtain ⟨i0, hi0, hz0, hz1, hz2⟩ := info_parts infoI
  have hR := h.lt
  have HD := Lib.hid (h.box #[.string ⟨#[]⟩, .string ⟨#[]⟩, .string ⟨#[]⟩, .int .i64 0, .int .i64 0, .int .i64 0, .slice none 0 0, .slice none 0 0, .slice none 0 0, .slice none 0 0] 80)
  clear h
  obtain ⟨B, hB⟩ : ∃ B, B = w.heap.size := ⟨_, rfl⟩
  go_enter Tryz.func74, Tryz.ntmps74
  go_upto_region 1 with fail
  rw [← hB] at HD
  rw [← hB]
  have HBE := Lib.hid hB
  clear hB
  go_wp2_with fail
  ((with_reducible refine (pick_ds (by repeat (first | exact HD.out | apply DS.alloc | apply DS.drewN | apply DS.drew)) (by omega) (by omega) (by omega)).mono ?_); rintro e wc ⟨c, rfl, c0, c1, hds, hon⟩; have Hc := Lib.hid hon; clear HD; have HD := Lib.hid hds; clear hds hon)
  go_wp2_with fail
  ((with_reducible refine (pick_ds (by repeat (first | exact HD.out | apply DS.alloc | apply DS.drewN | apply DS.drew)) (by omega) (by omega) (by omega)).mono ?_); rintro e wp ⟨p, rfl, p0, p1, hds, hon⟩; have Hp := Lib.hid hon; clear HD; have HD := Lib.hid hds; clear hds hon)
  have hwp := HD.out.on.size
  go_wp2_with fail
  have HL := Lib.hid (IR.lit (w := wp) (base := w.heap.size) (n := 1) #[.int .i64 (1 + c)] hwp rfl (by omega) (by intro x hx; simp at hx; subst hx; exact ⟨_, rfl, by omega, by omega⟩))
  have HS := Lib.hid (IR.lit (w := wp.alloc (.cells #[.int .i64 (1 + c)] 3)) (base := w.heap.size) (n := 3) #[.int .i64 0, .int .i64 0, .int .i64 0] (by simp; omega) rfl (by omega) (by intro x hx; simp at hx; rcases hx with rfl; exact ⟨_, rfl, by omega, by omega⟩))
  have hs1 : (wp.alloc (.cells #[.int .i64 (1 + c)] 3)).heap.size = wp.heap.size + 1 := by simp
  rw [hs1] at HS
  have HL2 := Lib.hid (HL.out.alloc (.cells #[.int .i64 0, .int .i64 0, .int .i64 0] 3))
  have hR2 := HD.out.here.lt
  obtain ⟨GL, hGL⟩ : ∃ GL, GL = wp.heap.size := ⟨_, rfl⟩
  have hsz2 : ((wp.alloc (.cells #[.int .i64 (1 + c)] 3)).alloc (.cells #[.int .i64 0, .int .i64 0, .int .i64 0] 3)).heap.size = GL + 2 := by rw [hGL]; simp
  have HD2 := Lib.hid ((HD.out.alloc (.cells #[.int .i64 (1 + c)] 3)).alloc (.cells #[.int .i64 0, .int .i64 0, .int .i64 0] 3))
  obtain ⟨w2, hw2⟩ : ∃ w2, w2 = (wp.alloc (.cells #[.int .i64 (1 + c)] 3)).alloc (.cells #[.int .i64 0, .int .i64 0, .int .i64 0] 3) := ⟨_, rfl⟩
  rw [← hw2] at HS HL2 hsz2 HD2
  rw [← hGL] at HS HL2
  rw [← hw2, ← hGL]
  clear hw2 HL hGL hs1 HD Hc Hp hwp hR2
  have HD := HD2
  clear HD2
  ((with_reducible refine (pick_ds (by repeat (first | exact HD.out | apply DS.alloc | apply DS.drewN | apply DS.drew)) (by omega) (by omega) (by omega)).mono ?_); rintro e wq ⟨q, rfl, q0, q1, hds, hon⟩; have Hq := Lib.hid hon; clear HD; have HD := Lib.hid hds; clear hds hon)
  have HL := Lib.hid (HL2.out.go Hq.out hR)
  have HS2 := Lib.hid (HS.out.go Hq.out hR)
  have hszq : GL + 2 ≤ wq.heap.size := by have := Hq.out.size; omega
  clear HL2 HS Hq hsz2
  go_wp2_with fail
  have HLt := Lib.hid HD.out.here.lt
  have HL3 := Lib.hid (HL.out.alloc (.cells #[.int .i64 0, .int .i64 0, .int .i64 q] 3))
  have HS3 := Lib.hid (HS2.out.alloc (.cells #[.int .i64 0, .int .i64 0, .int .i64 q] 3))
  ((with_reducible refine (pick_ds (by repeat (first | exact HD.out | apply DS.alloc | apply DS.drewN | apply DS.drew)) (by omega) (by omega) (by omega)).mono ?_); rintro e wu ⟨u, rfl, u0, u1, hds, hon⟩; have Hu := Lib.hid hon; clear HD; have HD := Lib.hid hds; clear hds hon)
  obtain ⟨v, hv, b, rfl, b0, b1⟩ := pick_cell (IntIn 0 1000) Hu.out HLt.out (by
    intro v hv
    simp at hv
    rcases hv with rfl | rfl
    all_goals exact ⟨_, rfl, by omega, by omega⟩) u0 u1
  have HL := Lib.hid (HL3.out.go Hu.out hR)
  have HS := Lib.hid (HS3.out.go Hu.out hR)
  have hszu : GL + 3 ≤ wu.heap.size := by have := Hu.out.size; simp at this; omega
  have hwu := HD.out.on.size
  clear HL3 HS3 HS2 HLt
  go_upto_region 3 with fail
  clear hv Hu
  have hsz3 : (wu.alloc (.cells #[.int .i64 b] 3)).heap.size = wu.heap.size + 1 := by simp
  obtain ⟨ar, har⟩ : ∃ ar, ar = dp + 1 + p := ⟨_, rfl⟩
  obtain ⟨cp, hcp⟩ : ∃ cp, cp = 1 + c := ⟨_, rfl⟩
  have ha0 : 0 ≤ ar ∧ ar ≤ dp + 10 := by omega
  have hc0 : 0 ≤ cp ∧ cp ≤ 10 := by omega
  rw [← har, ← hcp]
  clear har hcp
  have HDX := Lib.hid ((HD.out.alloc (.cells #[.int .i64 b] 3)).box #[.string nm, .string fr, .string tt, .int .i64 dp, .int .i64 ar, .int .i64 cp, .slice (some ⟨GL, 0, none⟩) 1 1, .slice (some ⟨GL + 1, 0, none⟩) 3 3, .slice (some ⟨wu.heap.size, 0, none⟩) 1 1, .slice none 0 0] 80)
  have HBI := Lib.hid ((IR.lit (w := wu) (base := w.heap.size) (n := 1) #[.int .i64 b] hwu rfl (by omega) (by intro x hx; simp at hx; subst hx; exact ⟨_, rfl, b0, b1⟩)).alloc (.cells #[.string nm, .string fr, .string tt, .int .i64 dp, .int .i64 ar, .int .i64 cp, .slice (some ⟨GL, 0, none⟩) 1 1, .slice (some ⟨GL + 1, 0, none⟩) 3 3, .slice (some ⟨wu.heap.size, 0, none⟩) 1 1, .slice none 0 0] 80))
  have HL4 := Lib.hid ((HL.out.alloc (.cells #[.int .i64 b] 3)).alloc (.cells #[.string nm, .string fr, .string tt, .int .i64 dp, .int .i64 ar, .int .i64 cp, .slice (some ⟨GL, 0, none⟩) 1 1, .slice (some ⟨GL + 1, 0, none⟩) 3 3, .slice (some ⟨wu.heap.size, 0, none⟩) 1 1, .slice none 0 0] 80))
  have HS4 := Lib.hid ((HS.out.alloc (.cells #[.int .i64 b] 3)).alloc (.cells #[.string nm, .string fr, .string tt, .int .i64 dp, .int .i64 ar, .int .i64 cp, .slice (some ⟨GL, 0, none⟩) 1 1, .slice (some ⟨GL + 1, 0, none⟩) 3 3, .slice (some ⟨wu.heap.size, 0, none⟩) 1 1, .slice none 0 0] 80))
  rw [hsz3] at HDX
  obtain ⟨w1, hw1⟩ : ∃ w1, w1 = (wu.alloc (.cells #[.int .i64 b] 3)).alloc (.cells #[.string nm, .string fr, .string tt, .int .i64 dp, .int .i64 ar, .int .i64 cp, .slice (some ⟨GL, 0, none⟩) 1 1, .slice (some ⟨GL + 1, 0, none⟩) 3 3, .slice (some ⟨wu.heap.size, 0, none⟩) 1 1, .slice none 0 0] 80) := ⟨_, rfl⟩
  rw [← hw1] at HDX HBI HL4 HS4
  rw [← hw1]
  obtain ⟨GB, hGB⟩ : ∃ GB, GB = wu.heap.size := ⟨_, rfl⟩
  rw [← hGB] at HDX HBI hszu
  rw [← hGB]
  have HBX : Hid (B < GB + 1) := by
    show B < GB + 1
    have := heap_lt (HD.out.loc _ (.head _)).2.1
    omega
  have hR1 : R < GB + 1 := by have := HD.out.here.lt; omega
  obtain ⟨X, hX⟩ : ∃ X, X = GB + 1 := ⟨_, rfl⟩
  rw [← hX] at HDX HBX hR1
  rw [← hX]
  clear hX hw1 hsz3 HD HL HS hGB hwu
  have HGS : Hid (GL + 1 ≠ GL ∧ GB ≠ GL ∧ GB ≠ GL + 1) := by show _ ∧ _ ∧ _; omega
  obtain ⟨GS, hGS⟩ : ∃ GS, GS = GL + 1 := ⟨_, rfl⟩
  rw [← hGS] at HDX HS4 HGS
  rw [← hGS]
  clear hGS hszu
  go_wp2_with fail
  go_loopw [13, 14] (fun iv nv wr => ∃ (i g cc : Nat), iv = .int .i64 i ∧ 1 ≤ i ∧ i ≤ 3 ∧ IR wr w.heap.size (.slice (some ⟨g, 0, none⟩) i cc) i ∧ (IR wr w.heap.size (.slice (some ⟨GS, 0, none⟩) 3 3) 3 ∧ GS ≠ g) ∧ (IR wr w.heap.size (.slice (some ⟨GB, 0, none⟩) 1 1) 1 ∧ GB ≠ g) ∧ DS w noS R (K + 5 + i) a len cap [(X, .cells #[.string nm, .string fr, .string tt, .int .i64 dp, .int .i64 ar, .int .i64 cp, .slice (some ⟨g, 0, none⟩) i cc, .slice (some ⟨GS, 0, none⟩) 3 3, .slice (some ⟨GB, 0, none⟩) 1 1, .slice none 0 0] 80 (0, 0)), (B, .cells #[.string ⟨#[]⟩, .string ⟨#[]⟩, .string ⟨#[]⟩, .int .i64 0, .int .i64 0, .int .i64 0, .slice none 0 0, .slice none 0 0, .slice none 0 0, .slice none 0 0] 80 (0, 0))] wr) (fun iv _ _ => 3 - (intOf iv).toNat)
  case atStart => exact ⟨1, GL, 1, rfl, by omega, by omega, HL4.out, ⟨HS4.out, HGS.out.1⟩, ⟨HBI.out, HGS.out.2.1⟩, HDX.out.mono (by omega)⟩
  case round =>
    obtain ⟨i, g, cc, rfl, hi1, hi3, hil, ⟨his, hgs⟩, ⟨hib, hgb⟩, hds⟩ := hrel
    clear HDX HL4 HS4 HBI
    obtain ⟨wo, rfl⟩ : ∃ wo, wo = wr := ⟨_, rfl⟩
    have HD := Lib.hid hds
    have HL := Lib.hid hil
    have HS := Lib.hid his
    have HBI := Lib.hid hib
    obtain ⟨-, hbX, -⟩ := hds.loc _ (.head _)
    have c6 := cell_of hbX 6
    simp at c6
    clear hds his hib hbX
    by_cases hi : i < 3
    · obtain ⟨g2, c2, he, hgw, hglt, hcc, hcells⟩ := hil.form (by omega)
      simp only [Value.slice.injEq, Option.some.injEq, Addr.mk.injEq, and_true, true_and] at he
      obtain ⟨rfl, rfl⟩ := he
      obtain ⟨z, cz, z0, z1⟩ := hcells (i - 1) (by omega)
      have s1 : IntKind.i64.wrap ((i : Int) - 1) = (i : Int) - 1 := IntWalk.i64_in _ (by omega)
      have s2 : (0 : Int) ≤ (i : Int) - 1 := by omega
      have s3 : (i : Int) - 1 < (i : Int) := by omega
      have s4 : ((i : Int) - 1).toNat = i - 1 := by omega
      have s5 : (1 : Int) ≤ (i : Int) := by omega
      have hgR : g ≠ R := by omega
      clear hil hcells
      go_wp2_with fail
      go_region_law (first | (go_simp; (go_at_call 25; ((with_reducible refine (pick_ds (n := 3) (by repeat (first | exact HD.out | apply DS.alloc | apply DS.drewN | apply DS.drew)) (by omega) (by omega) (by omega)).mono ?_); rintro e wy ⟨y, rfl, y0, y1, hds, hon⟩; have HDY := Lib.hid hds; have HLY := Lib.hid (HL.out.drew.go hon hR); have HSY := Lib.hid (HS.out.drew.go hon hR); have HBY := Lib.hid (HBI.out.drew.go hon hR); obtain ⟨-, hbX, -⟩ := hds.loc _ (.head _); have c6 := cell_of hbX 6; have f6 := frozen_of hbX 6; simp at c6; have cz := (World.cell?_of_block (w := wo) (a := ⟨g, i - 1, none⟩) (hon.block g hglt (by simp; omega))).trans cz; have s6 : IntKind.i64.wrap (z - y) = z - y := IntWalk.i64_in _ (by omega); clear hds hon hbX))))
      all_goals
        obtain ⟨xs, hrow, hxs⟩ := HLY.out
        have HROW := Lib.hid hrow
        have HXS := Lib.hid hxs
        clear hrow hxs
        by_cases hneg : z - y < 0
        · go_wp2_with (at_builtin; go_loud (refine wpList_append_lies _ rfl (.tmp 57) (.tmp 59) 77 rfl w.heap.size 3 i0 (.int .i64 0) 1 8 Tryz.underlying77 hi0 hz0 hz1 hz2 rfl (by decide) (.slice (some ⟨g, 0, none⟩) i cc) i xs rfl (HROW.out.kept (World.grownBy_alloc _ _ none) (Or.inr (by simp [Value.ownBlock]))) ⟨wy.heap.size, 0, none⟩ 1 1 [.int .i64 0] rfl rfl (news_1 _ _ _) (by simp [Value.oneCell']) (by decide) (by unfold maxLen; omega) (by omega) (by have := HDY.out.on.size; simp; omega) (wy.heap.size + 1) (by simp) ?_; intro g' c' w4 hown hgrow hat hlt4; have HP := Lib.hid (leg_push (f := 6) HDY.out HBX.out HROW.out HXS.out ⟨by omega, by omega⟩ hown hgrow hat); clear hown hgrow hat; obtain ⟨-, hbX, -⟩ := HP.out.1.loc _ (.head _); have c6 := cell_of hbX 6; have f6 := frozen_of hbX 6; simp at c6; clear hbX))
          go_roundw
          case rel => exact ⟨i + 1, g', c', by go_num, by omega, by omega, HP.out.2.1, ⟨(HP.out.2.2.2 _ _ HSY.out (by simpa [Value.ownBlock] using hgs)).1, by simpa [Value.ownBlock] using (HP.out.2.2.2 _ _ HSY.out (by simpa [Value.ownBlock] using hgs)).2⟩, ⟨(HP.out.2.2.2 _ _ HBY.out (by simpa [Value.ownBlock] using hgb)).1, by simpa [Value.ownBlock] using (HP.out.2.2.2 _ _ HBY.out (by simpa [Value.ownBlock] using hgb)).2⟩, HP.out.2.2.1.mono (by omega)⟩
          case measure => simp [intOf]; omega
        · go_wp2_with (at_builtin; go_loud (refine wpList_append_lies _ rfl (.tmp 57) (.tmp 59) 77 rfl w.heap.size 3 i0 (.int .i64 0) 1 8 Tryz.underlying77 hi0 hz0 hz1 hz2 rfl (by decide) (.slice (some ⟨g, 0, none⟩) i cc) i xs rfl (HROW.out.kept (World.grownBy_alloc _ _ none) (Or.inr (by simp [Value.ownBlock]))) ⟨wy.heap.size, 0, none⟩ 1 1 [.int .i64 (z - y)] rfl rfl (news_1 _ _ _) (by simp [Value.oneCell']) (by decide) (by unfold maxLen; omega) (by omega) (by have := HDY.out.on.size; simp; omega) (wy.heap.size + 1) (by simp) ?_; intro g' c' w4 hown hgrow hat hlt4; have HP := Lib.hid (leg_push (f := 6) HDY.out HBX.out HROW.out HXS.out ⟨by omega, by omega⟩ hown hgrow hat); clear hown hgrow hat; obtain ⟨-, hbX, -⟩ := HP.out.1.loc _ (.head _); have c6 := cell_of hbX 6; have f6 := frozen_of hbX 6; simp at c6; clear hbX))
          go_roundw
          case rel => exact ⟨i + 1, g', c', by go_num, by omega, by omega, HP.out.2.1, ⟨(HP.out.2.2.2 _ _ HSY.out (by simpa [Value.ownBlock] using hgs)).1, by simpa [Value.ownBlock] using (HP.out.2.2.2 _ _ HSY.out (by simpa [Value.ownBlock] using hgs)).2⟩, ⟨(HP.out.2.2.2 _ _ HBY.out (by simpa [Value.ownBlock] using hgb)).1, by simpa [Value.ownBlock] using (HP.out.2.2.2 _ _ HBY.out (by simpa [Value.ownBlock] using hgb)).2⟩, HP.out.2.2.1.mono (by omega)⟩
          case measure => simp [intOf]; omega
    · have hi3e : i = 3 := by omega
      subst hi3e
      go_wp2_with fail
      ((with_reducible refine (pick_ds (by repeat (first | exact HD.out | apply DS.alloc | apply DS.drewN | apply DS.drew)) (by omega) (by omega) (by omega)).mono ?_); rintro e wnb ⟨nb, rfl, nb0, nb1, hds, hon⟩; have Hnb := Lib.hid hon; clear HD; have HD := Lib.hid hds; clear hds hon)
      have HL2 := Lib.hid (HL.out.go Hnb.out hR)
      have HS2 := Lib.hid (HS.out.go Hnb.out hR)
      have HB2 := Lib.hid (HBI.out.go Hnb.out hR)
      clear HL HS HBI Hnb hil c6 hi
      go_wp2_with fail
      go_loopw [15] (fun nv wr => ∃ (j m g2 c2 : Nat), nv = .int .i64 j ∧ j + m ≤ 3 ∧ 1 ≤ m ∧ IR wr w.heap.size (.slice (some ⟨g2, 0, none⟩) m c2) m ∧ (IR wr w.heap.size (.slice (some ⟨GS, 0, none⟩) 3 3) 3 ∧ GS ≠ g2) ∧ (IR wr w.heap.size (.slice (some ⟨g, 0, none⟩) 3 cc) 3 ∧ g ≠ g2) ∧ DS w noS R (K + 9 + m) a len cap [(X, .cells #[.string nm, .string fr, .string tt, .int .i64 dp, .int .i64 ar, .int .i64 cp, .slice (some ⟨g, 0, none⟩) 3 cc, .slice (some ⟨GS, 0, none⟩) 3 3, .slice (some ⟨g2, 0, none⟩) m c2, .slice none 0 0] 80 (0, 0)), (B, .cells #[.string ⟨#[]⟩, .string ⟨#[]⟩, .string ⟨#[]⟩, .int .i64 0, .int .i64 0, .int .i64 0, .slice none 0 0, .slice none 0 0, .slice none 0 0, .slice none 0 0] 80 (0, 0))] wr) (fun nv _ => (intOf nv).toNat)
      case atStart => exact ⟨nb.toNat, 1, GB, 1, by congr 1; omega, by omega, by omega, HB2.out, ⟨HS2.out, by have := HGS.out; omega⟩, ⟨HL2.out, fun e => hgb e.symm⟩, HD.out.mono (by omega)⟩
      case round =>
        obtain ⟨j, m, g2, c2, rfl, hjm, hm1, hib, ⟨his, hgs2⟩, ⟨hil, hgb2⟩, hds⟩ := hrel
        clear HD HL2 HS2 HB2 hgs hgb
        obtain ⟨wo, rfl⟩ : ∃ wo, wo = wr := ⟨_, rfl⟩
        have HD := Lib.hid hds
        have HL := Lib.hid hil
        have HS := Lib.hid his
        have HBI := Lib.hid hib
        obtain ⟨-, hbX, -⟩ := hds.loc _ (.head _)
        have c8 := cell_of hbX 8
        simp at c8
        clear hds his hil hbX
        by_cases hj : 0 < j
        · obtain ⟨g3, c3, he, hgw, hglt, hcc, hcells⟩ := hib.form (by omega)
          simp only [Value.slice.injEq, Option.some.injEq, Addr.mk.injEq, and_true, true_and] at he
          obtain ⟨rfl, rfl⟩ := he
          obtain ⟨z, cz, z0, z1⟩ := hcells (m - 1) (by omega)
          have s1 : IntKind.i64.wrap ((m : Int) - 1) = (m : Int) - 1 := IntWalk.i64_in _ (by omega)
          have s2 : (0 : Int) ≤ (m : Int) - 1 := by omega
          have s3 : (m : Int) - 1 < (m : Int) := by omega
          have s4 : ((m : Int) - 1).toNat = m - 1 := by omega
          have s5 : (1 : Int) ≤ (m : Int) := by omega
          have hgR : g2 ≠ R := by omega
          have hj4 : j ≤ 4 := by omega
          have hm4 : m ≤ 4 := by omega
          obtain ⟨xs, hrow, hxs⟩ := HBI.out
          have HROW := Lib.hid hrow
          have HXS := Lib.hid hxs
          have HJM := Lib.hid hjm
          clear hib hcells hrow hxs hjm
          go_wp2_with fail
          go_region_law (first | (go_simp; (go_at_call 25; ((with_reducible refine (pick_ds (n := 10) (by repeat (first | exact HD.out | apply DS.alloc | apply DS.drewN | apply DS.drew)) (by omega) (by omega) (by omega)).mono ?_); rintro e wy ⟨y, rfl, y0, y1, hds, hon⟩; have HDY := Lib.hid hds; have HLY := Lib.hid (HL.out.drew.go hon hR); have HSY := Lib.hid (HS.out.drew.go hon hR); have HROWY := Lib.hid (HROW.out.drew.kept hon (Or.inr (by simp [Value.ownBlock]; omega))); obtain ⟨-, hbX, -⟩ := hds.loc _ (.head _); have c8 := cell_of hbX 8; have f8 := frozen_of hbX 8; have hXy := heap_lt hbX; simp at c8 hXy; have cz := (World.cell?_of_block (w := wo) (a := ⟨g2, m - 1, none⟩) (hon.block g2 hglt (by simp; omega))).trans cz; have hzm := mul_small z0 z1 y0 y1; have hzy := hzm.2; have s6 : IntKind.i64.wrap (z * y) = z * y := IntWalk.i64_in _ (by omega); have s7 : IntKind.i64.wrap ((z * y).tdiv 10) = (z * y).tdiv 10 := IntWalk.i64_in _ (by omega); clear hds hon hbX))) | ( (refine step_append_lies _ rfl (.tmp 69) (.tmp 82) 77 rfl w.heap.size 3 i0 (.int .i64 0) 1 8 Tryz.underlying77 hi0 hz0 hz1 hz2 rfl (by decide) (.slice (some ⟨g2, 0, none⟩) m c2) m xs (by simp [Act.eval]) (HROWY.out.kept (World.grownBy_alloc _ _ none) (Or.inr (by simp [Value.ownBlock]))) ⟨wy.heap.size, 0, none⟩ 1 1 [.int .i64 ((z * y).tdiv 10)] (by simp [Act.eval]) rfl (news_1 _ _ _) (by simp [Value.oneCell']) (by decide) (by unfold maxLen; omega) (by omega) (by have := HDY.out.on.size; simp; omega) (wy.heap.size + 1) (by simp) ?_; intro g' c' w4 hown hgrow hat hlt4; have HP := Lib.hid (leg_push (f := 8) HDY.out HBX.out HROWY.out HXS.out hzy hown hgrow hat); clear hown hgrow hat; obtain ⟨-, hbX, -⟩ := HP.out.1.loc _ (.head _); have c8 := cell_of hbX 8; have f8 := frozen_of hbX 8; simp at c8; clear hbX)))
          all_goals
            go_wp2_with fail
            go_roundw
            case rel => exact ⟨j - 1, m + 1, g', c', by congr 1; omega, by have := HJM.out; omega, by omega, HP.out.2.1, ⟨(HP.out.2.2.2 _ _ HSY.out (by simpa [Value.ownBlock] using hgs2)).1, by simpa [Value.ownBlock] using (HP.out.2.2.2 _ _ HSY.out (by simpa [Value.ownBlock] using hgs2)).2⟩, ⟨(HP.out.2.2.2 _ _ HLY.out (by simpa [Value.ownBlock] using hgb2)).1, by simpa [Value.ownBlock] using (HP.out.2.2.2 _ _ HLY.out (by simpa [Value.ownBlock] using hgb2)).2⟩, HP.out.2.2.1.mono (by omega)⟩
            case measure => simp [intOf]; omega
        · obtain ⟨-, hbX, -⟩ := HD.out.loc _ (.head _)
          obtain ⟨hB1, hbB, -⟩ := HD.out.loc _ (.tail _ (.head _))
          have c0 := cell_of hbX 0
          have c1 := cell_of hbX 1
          have c2' := cell_of hbX 2
          have c3 := cell_of hbX 3
          have c4 := cell_of hbX 4
          have c5 := cell_of hbX 5
          have c6 := cell_of hbX 6
          have c7 := cell_of hbX 7
          have c9 := cell_of hbX 9
          have d0 := cell_of hbB 0
          have d1 := cell_of hbB 1
          have d2 := cell_of hbB 2
          have d3 := cell_of hbB 3
          have d4 := cell_of hbB 4
          have d5 := cell_of hbB 5
          have d6 := cell_of hbB 6
          have d7 := cell_of hbB 7
          have d8 := cell_of hbB 8
          have d9 := cell_of hbB 9
          have f0 := frozen_of hbB 0
          have f1 := frozen_of hbB 1
          have f2 := frozen_of hbB 2
          have f3 := frozen_of hbB 3
          have f4 := frozen_of hbB 4
          have f5 := frozen_of hbB 5
          have f6 := frozen_of hbB 6
          have f7 := frozen_of hbB 7
          have f8 := frozen_of hbB 8
          have f9 := frozen_of hbB 9
          simp at c0 c1 c2' c3 c4 c5 c6 c7 c9 d0 d1 d2 d3 d4 d5 d6 d7 d8 d9
          have hX1 := HBX.out
          have hXB : ¬ X = B := by omega
          have HBB := Lib.hid hbB
          have hBw0 : w.heap.size ≤ B := hB1
          clear hbX hbB hB1 hib
          go_wp2_with fail
          refine bodyPost_ret (v := .agg #[.string nm, .string fr, .string tt, .int .i64 dp, .int .i64 ar, .int .i64 cp, .slice (some ⟨g, 0, none⟩) 3 cc, .slice (some ⟨GS, 0, none⟩) 3 3, .slice (some ⟨g2, 0, none⟩) m c2, .slice none 0 0]) (by simp [results, Tryz.results74, go_sem, d0, d1, d2, d3, d4, d5, d6, d7, d8, d9]) rfl ⟨_, rfl, ⟨nm, fr, tt, dp, ar, cp, _, _, _, m, rfl, hs, ⟨hd.1, Int.le_refl _⟩, ha0, hc0, ?_, ?_, ⟨hm1, by omega⟩, ?_⟩, ?_⟩
          · exact (leg_out (HL.out) HBB.out)
          · exact (leg_out (HS.out) HBB.out)
          · exact (leg_out (HBI.out) HBB.out)
          · exact (leg_ds HD.out hBw0).mono (by omega)

end My
end Go.Proofs.YtjmlekhgnbbjoaaGreatDoor
