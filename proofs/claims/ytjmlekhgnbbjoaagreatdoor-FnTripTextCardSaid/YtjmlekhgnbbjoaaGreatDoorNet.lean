/- The drawing function of nets. -/
import Derived.Test.YtjmlekhgnbbjoaaGreatDoorNetP
import Derived.Test.YtjmlekhgnbbjoaaGreatDoorLeg
import Derived.Deep.RegionLaw
namespace Go.Proofs.YtjmlekhgnbbjoaaGreatDoor
open Go.RowKit Go.Deep
set_option linter.unusedVariables false
namespace My

/-- What l14Net leaves. -/
def NetPost (R K : Nat) (a : Option Addr) (len cap : Nat) (w : World) (e : Ending) (w' : World) : Prop :=
  ∃ (g n c : Nat) (xs : List Value), e = .returned (.slice (some ⟨g, 0, none⟩) n c) ∧ 1 ≤ n ∧ n ≤ 6 ∧ NS w R K a len cap g n c xs [] w'

set_option maxRecDepth 100000 in
set_option maxHeartbeats 40000000 in
theorem l14Net_any {R K : Nat} {a : Option Addr} {len cap : Nat} {w : World} (hK : K ≤ 1000) (h : DS w noS R K a len cap [] w) :
    Calls Tryz.prog 53 #[.pointer (some ⟨R, 0, none⟩)] w (NetPost R (K + 1000) a len cap w) := by
  obtain ⟨i0, hi0, hz0, hz1, hz2⟩ := info_parts infoLeg
  have hR := h.lt
  have HD := Lib.hid ((h.box #[.string ⟨#[97, 109, 115]⟩, .string ⟨#[98, 114, 117]⟩, .string ⟨#[99, 100, 103]⟩, .string ⟨#[100, 117, 98]⟩] 9).box #[.string ⟨#[108, 97]⟩, .string ⟨#[108, 98]⟩, .string ⟨#[108, 99]⟩, .string ⟨#[108, 100]⟩, .string ⟨#[108, 101]⟩, .string ⟨#[108, 102]⟩] 9)
  clear h
  obtain ⟨P, hP⟩ : ∃ P, P = w.heap.size := ⟨_, rfl⟩
  go_enter Tryz.func53, Tryz.ntmps53
  go_upto_region 4 with fail
  obtain ⟨w2, hw2⟩ : ∃ w2, w2 = (w.alloc (.cells #[.string ⟨#[97, 109, 115]⟩, .string ⟨#[98, 114, 117]⟩, .string ⟨#[99, 100, 103]⟩, .string ⟨#[100, 117, 98]⟩] 9)).alloc (.cells #[.string ⟨#[108, 97]⟩, .string ⟨#[108, 98]⟩, .string ⟨#[108, 99]⟩, .string ⟨#[108, 100]⟩, .string ⟨#[108, 101]⟩, .string ⟨#[108, 102]⟩] 9) := ⟨_, rfl⟩
  have hsz1 : (w.alloc (.cells #[.string ⟨#[97, 109, 115]⟩, .string ⟨#[98, 114, 117]⟩, .string ⟨#[99, 100, 103]⟩, .string ⟨#[100, 117, 98]⟩] 9)).heap.size = w.heap.size + 1 := by simp
  have hsz2 : w2.heap.size = w.heap.size + 2 := by rw [hw2]; simp
  rw [hsz1, ← hw2] at HD
  have HN := Lib.hid (NS.mk (HD.out.alloc (.cells #[] 80)) (World.ownsRow_lit (e := 80) (size := 10) w2 #[] 0 (by omega) (by simp [maxLen]) rfl) (fun i hi => absurd hi (by omega)))
  rw [hsz2] at HN
  rw [← hw2]
  obtain ⟨w3, hw3⟩ : ∃ w3, w3 = w2.alloc (.cells #[] 80) := ⟨_, rfl⟩
  rw [← hw3] at HN
  rw [← hw3]
  rw [← hP] at HN
  rw [← hP]
  have HP := Lib.hid hP
  have hN2 : NS w R K a len cap (P + 2) 0 0 [] [(P + 1, netN), (P, netP)] w3 := HN.out
  have HN := Lib.hid hN2
  clear hw2 hw3 hsz1 hsz2 HD hP hN2
  have HD := Lib.hid HN.out.ds
  go_wp2_with fail
  ((with_reducible refine (pick_ds (by repeat (first | exact HD.out | apply DS.alloc | apply DS.drewN | apply DS.drew)) (by omega) (by omega) (by omega)).mono ?_); rintro e wb ⟨b, rfl, b0, b1, hds, hon⟩; have Hb := Lib.hid hon; clear HD; have HD := Lib.hid hds; clear hds hon)
  have HN2 := Lib.hid (HN.out.go HD.out Hb.out)
  clear HN Hb
  have HN := HN2
  clear HN2
  go_wp2_with fail
  ((with_reducible refine (pick_ds (by repeat (first | exact HD.out | apply DS.alloc | apply DS.drewN | apply DS.drew)) (by omega) (by omega) (by omega)).mono ?_); rintro e wtm ⟨tm, rfl, tm0, tm1, hds, hon⟩; have Htm := Lib.hid hon; clear HD; have HD := Lib.hid hds; clear hds hon)
  have HN2 := Lib.hid (HN.out.go HD.out Htm.out)
  clear HN Htm HD
  have HN := HN2
  clear HN2
  go_wp2_with fail
  go_loopw [5, 6, 7, 8] (fun ov xv tv iv wr => ∃ (k g c : Nat) (xs : List Value) (x y : Int), ov = .slice (some ⟨g, 0, none⟩) k c ∧ xv = .int .i64 x ∧ tv = .int .i64 y ∧ iv = .int .i64 k ∧ k ≤ 6 ∧ 0 ≤ x ∧ x ≤ 3 ∧ 0 ≤ y ∧ y ≤ 20 * k + 10 ∧ NS w R (K + 10 + 120 * k) a len cap g k c xs [(P + 1, netN), (P, netP)] wr ∧ P + 2 ≤ g) (fun _ _ _ iv _ => 6 - (intOf iv).toNat)
  case atStart => exact ⟨0, P + 2, 0, [], b, tm, rfl, rfl, rfl, rfl, by omega, b0, by omega, tm0, by omega, HN.out.mono (by omega), by omega⟩
  case round =>
    obtain ⟨k, g, c, xs, x, y, rfl, rfl, rfl, rfl, hk, x0, x1, y0, y1, hns, hPg⟩ := hrel
    obtain ⟨wo, rfl⟩ : ∃ wo, wo = wr := ⟨_, rfl⟩
    clear HN
    have HN := Lib.hid hns
    have HD := Lib.hid hns.ds
    clear hns
    go_wp2_with fail
    ((with_reducible refine (pick_ds (by repeat (first | exact HD.out | apply DS.alloc | apply DS.drewN | apply DS.drew)) (by omega) (by omega) (by omega)).mono ?_); rintro e wz ⟨z, rfl, z0, z1, hds, hon⟩; have Hz := Lib.hid hon; clear HD; have HD := Lib.hid hds; clear hds hon)
    have HN2 := Lib.hid (HN.out.go HD.out Hz.out)
    clear HN Hz
    have HN := HN2
    clear HN2
    by_cases hz : (k : Int) < 2 + z
    · go_wp2_with fail
      ((with_reducible refine (pick_ds (by repeat (first | exact HD.out | apply DS.alloc | apply DS.drewN | apply DS.drew)) (by omega) (by omega) (by omega)).mono ?_); rintro e wu ⟨u, rfl, u0, u1, hds, hon⟩; have Hu := Lib.hid hon; clear HD; have HD := Lib.hid hds; clear hds hon)
      have HN2 := Lib.hid (HN.out.go HD.out Hu.out)
      clear HN Hu
      have HN := HN2
      clear HN2
      have r1 : (x + 1 + u).tmod 4 = (x + 1 + u) % 4 := Int.tmod_eq_emod_of_nonneg (by omega)
      obtain ⟨t, ht⟩ : ∃ t, t = (x + 1 + u) % 4 := ⟨_, rfl⟩
      rw [← ht] at r1
      have t0 : 0 ≤ t ∧ t ≤ 3 := by omega
      clear ht
      have hk5 : k ≤ 5 := by omega
      obtain ⟨s1, hs1, hc1⟩ := netN_sel hk5
      obtain ⟨s2, hs2, hc2⟩ := netP_sel x0 x1
      obtain ⟨s3, hs3, hc3⟩ := netP_sel t0.1 t0.2
      obtain ⟨-, hbN, -⟩ := HD.out.loc _ (.head _)
      obtain ⟨-, hbP, -⟩ := HD.out.loc _ (.tail _ (.head _))
      have e1 := hc1 _ _ hbN
      have e2 := hc2 _ _ hbP
      have e3 := hc3 _ _ hbP
      have q1 : (0 : Int) ≤ (k : Int) := by omega
      have q2 : (k : Int) < 6 := by omega
      have q3 : x < 4 := by omega
      have q4 : t < 4 := by omega
      have q5 := t0.1
      obtain ⟨-, hbN2, -⟩ := (HD.out.alloc (.cells #[.string ⟨#[]⟩, .string ⟨#[]⟩, .string ⟨#[]⟩, .int .i64 0, .int .i64 0, .int .i64 0, .slice none 0 0, .slice none 0 0, .slice none 0 0, .slice none 0 0] 80)).loc _ (.head _)
      obtain ⟨-, hbP2, -⟩ := (HD.out.alloc (.cells #[.string ⟨#[]⟩, .string ⟨#[]⟩, .string ⟨#[]⟩, .int .i64 0, .int .i64 0, .int .i64 0, .slice none 0 0, .slice none 0 0, .slice none 0 0, .slice none 0 0] 80)).loc _ (.tail _ (.head _))
      have e4 := hc1 _ _ hbN2
      have e5 := hc2 _ _ hbP2
      have e6 := hc3 _ _ hbP2
      clear hbN hbP hbN2 hbP2 hc1 hc2 hc3
      go_upto_region 10 with fail
      go_cut [10] from 18 to 63 (fun lv wc => ∃ (B : Nat) (nm fr tt : ByteArray) (dp ar cp : Int) (g1 c1 g2 c2 nb g3 c3 : Nat), lv = .pointer (some ⟨B, 0, none⟩) ∧ NS w R (K + 10 + 120 * k + 1 + 1 + 100) a len cap g k c xs [(B, .cells #[.string nm, .string fr, .string tt, .int .i64 dp, .int .i64 ar, .int .i64 cp, .slice (some ⟨g1, 0, none⟩) 3 c1, .slice (some ⟨g2, 0, none⟩) 3 c2, .slice (some ⟨g3, 0, none⟩) nb c3, .slice none 0 0] 80 (0, 0)), (P + 1, netN), (P, netP)] wc ∧ LegOK wc w.heap.size 10000 (.slice none 0 0) (.agg #[.string nm, .string fr, .string tt, .int .i64 dp, .int .i64 ar, .int .i64 cp, .slice (some ⟨g1, 0, none⟩) 3 c1, .slice (some ⟨g2, 0, none⟩) 3 c2, .slice (some ⟨g3, 0, none⟩) nb c3, .slice none 0 0]) ∧ (0 ≤ ar ∧ ar ≤ y + 10) ∧ g ≠ B)
      case first =>
        have hgu := HN.out.base.2
        have hwu := HD.out.on.size
        have hPu : P + 1 < wu.heap.size := heap_lt (HD.out.loc _ (.head _)).2.1
        go_region_law (first | ((try go_simp); (go_at_call 74; ((with_reducible refine (l14Leg_any (K := K + 10 + 120 * k + 1 + 1) s1 s2 s3 y (by omega) (DS.here (w0 := w) (L := [(P + 1, netN), (P, netP)]) (by repeat (first | exact HD.out | apply DS.alloc | apply DS.drewN | apply DS.drew))) ⟨hs1, hs2, hs3⟩ ⟨by omega, by omega⟩).mono ?_); rintro e wv ⟨v, rfl, hv, hds⟩; have HDV := Lib.hid hds; have HV := Lib.hid hv; obtain ⟨nm, fr, tt, dp, ar, cp, vl, vs, vb, nb, rfl, -, hd, ha, -, hl, hss, hnb, hb⟩ := hv; obtain ⟨g1, c1, rfl, -⟩ := hl.form (by omega); obtain ⟨g2, c2, rfl, -⟩ := hss.form (by omega); obtain ⟨g3, c3, rfl, -⟩ := hb.form (by omega); (try (have HBX := Lib.hid ((HD.out.box #[.string ⟨#[]⟩, .string ⟨#[]⟩, .string ⟨#[]⟩, .int .i64 0, .int .i64 0, .int .i64 0, .slice none 0 0, .slice none 0 0, .slice none 0 0, .slice none 0 0] 80).drew.call hds (More.refl _ _)); obtain ⟨-, hbB, -⟩ := HBX.out.loc _ (.head _); have m0 := cell_of hbB 0; have n0 := frozen_of hbB 0; have m1 := cell_of hbB 1; have n1 := frozen_of hbB 1; have m2 := cell_of hbB 2; have n2 := frozen_of hbB 2; have m3 := cell_of hbB 3; have n3 := frozen_of hbB 3; have m4 := cell_of hbB 4; have n4 := frozen_of hbB 4; have m5 := cell_of hbB 5; have n5 := frozen_of hbB 5; have m6 := cell_of hbB 6; have n6 := frozen_of hbB 6; have m7 := cell_of hbB 7; have n7 := frozen_of hbB 7; have m8 := cell_of hbB 8; have n8 := frozen_of hbB 8; have m9 := cell_of hbB 9; have n9 := frozen_of hbB 9; simp at m0 m1 m2 m3 m4 m5 m6 m7 m8 m9; clear hbB)); clear hds hl hss hb hnb))))
        all_goals
          go_wp2_with fail
          go_meet
          first
            | exact ⟨wv.heap.size, nm, fr, tt, dp, ar, cp, g1, c1, g2, c2, nb, g3, c3, rfl, (HN.out.drew.call HDV.out).box _ _, (HV.out.mono (by simpa using hwu) (by omega)).alloc _, ha, by have := HDV.out.on.size; simp at this; omega⟩
            | exact ⟨wu.heap.size, nm, fr, tt, dp, ar, cp, g1, c1, g2, c2, nb, g3, c3, rfl, (NS.lay _ _ _ _ _ _ _ _ _ _ ((HN.out.alloc _).drew.call HDV.out) hwu (by omega) (by intro p hp; simp at hp; rcases hp with rfl | rfl <;> simp <;> omega) (HBX.out.loc _ (.head _)).2.1).1, (NS.lay _ _ _ _ _ _ _ _ _ _ ((HN.out.alloc _).drew.call HDV.out) hwu (by omega) (by intro p hp; simp at hp; rcases hp with rfl | rfl <;> simp <;> omega) (HBX.out.loc _ (.head _)).2.1).2 _ _ _ _ (HV.out.mono (by simp; omega) (by omega)), ha, by omega⟩
      case rest =>
        obtain ⟨B, nm, fr, tt, dp, ar, cp, g1, c1, g2, c2, nb, g3, c3, rfl, hns, hv, ha, hgB⟩ := hcut
        clear HN HD
        obtain ⟨wq, rfl⟩ : ∃ wq, wq = wc := ⟨_, rfl⟩
        have HN := Lib.hid hns
        have HV := Lib.hid hv
        obtain ⟨-, hbB, -⟩ := hns.ds.loc _ (.head _)
        have m0 := cell_of hbB 0
        have m1 := cell_of hbB 1
        have m2 := cell_of hbB 2
        have m3 := cell_of hbB 3
        have m4 := cell_of hbB 4
        have m5 := cell_of hbB 5
        have m6 := cell_of hbB 6
        have m7 := cell_of hbB 7
        have m8 := cell_of hbB 8
        have m9 := cell_of hbB 9
        simp at m0 m1 m2 m3 m4 m5 m6 m7 m8 m9
        clear hns hv hbB e1 e2 e3 e4 e5 e6
        have hsw := HN.out.ds.on.size
        have hxl := HN.out.row.1
        have hL : ∀ p, p ∈ [(B, Obj.cells #[.string nm, .string fr, .string tt, .int .i64 dp, .int .i64 ar, .int .i64 cp, .slice (some ⟨g1, 0, none⟩) 3 c1, .slice (some ⟨g2, 0, none⟩) 3 c2, .slice (some ⟨g3, 0, none⟩) nb c3, .slice none 0 0] 80 (0, 0)), (P + 1, netN), (P, netP)] → p.1 ≠ g := by
          intro p hp
          simp at hp
          rcases hp with rfl | rfl | rfl <;> simp <;> omega
        go_wp2_with (at_builtin; go_loud (refine wpList_append_lies _ rfl (.tmp 46) (.tmp 48) 46 rfl w.heap.size 80 i0 (.agg #[.string ⟨#[]⟩, .string ⟨#[]⟩, .string ⟨#[]⟩, .int .i64 0, .int .i64 0, .int .i64 0, .slice none 0 0, .slice none 0 0, .slice none 0 0, .slice none 0 0]) 10 168 Tryz.underlying46 hi0 hz0 hz1 hz2 rfl (by decide) (.slice (some ⟨g, 0, none⟩) k c) k xs rfl (HN.out.row.kept (World.grownBy_alloc _ _ none) (Or.inr (by simp [Value.ownBlock]))) ⟨wq.heap.size, 0, none⟩ 1 1 [.string nm, .string fr, .string tt, .int .i64 dp, .int .i64 ar, .int .i64 cp, .slice (some ⟨g1, 0, none⟩) 3 c1, .slice (some ⟨g2, 0, none⟩) 3 c2, .slice (some ⟨g3, 0, none⟩) nb c3, .slice none 0 0] rfl rfl (news_10 _ _ _ _ _ _ _ _ _ _ _ _) (by simp [Value.oneCell']) (by decide) (by unfold maxLen; omega) (by omega) (by simp; omega) (wq.heap.size + 1) (by simp) ?_; intro g' c' w4 hown hgrow hat hlt4; have HW4 := Lib.hid (HN.out.push hL HV.out hown hgrow); have hPg' : P + 2 ≤ g' := (by rcases hat with e | e; (simp [Value.ownBlock] at e; omega); (have := HN.out.base; omega)); clear hown hgrow hat))
        have HD := Lib.hid HW4.out.ds
        clear HN HV m0 m1 m2 m3 m4 m5 m6 m7 m8 m9 hL
        ((with_reducible refine (pick_ds (by repeat (first | exact HD.out | apply DS.alloc | apply DS.drewN | apply DS.drew)) (by omega) (by omega) (by omega)).mono ?_); rintro e wq ⟨q, rfl, q0, q1, hds, hon⟩; have Hq := Lib.hid hon; clear HD; have HD := Lib.hid hds; clear hds hon)
        have HN := Lib.hid (HW4.out.go HD.out Hq.out)
        clear HW4 Hq
        by_cases hq : 0 < q
        · obtain ⟨-, hbB, -⟩ := HN.out.ds.loc _ (.head _)
          have m4 := cell_of hbB 4
          simp at m4
          clear hbB
          go_upto_region 14 with fail
          have s6 : IntKind.i64.wrap (ar + 1) = ar + 1 := IntWalk.i64_in _ (by omega)
          go_region_law (first | ((try go_simp); (go_at_call 25; ((with_reducible refine (pick_ds (n := 2) (by repeat (first | exact HD.out | apply DS.alloc | apply DS.drewN | apply DS.drew)) (by omega) (by omega) (by omega)).mono ?_); rintro e wy ⟨y2, rfl, y20, y21, hds, hon⟩; have HDY := Lib.hid hds; have HNY := Lib.hid (HN.out.drew.go hds hon); obtain ⟨-, hbB, -⟩ := hds.loc _ (.head _); have m4 := cell_of hbB 4; simp at m4; have s7 : IntKind.i64.wrap (ar + 1 + y2) = ar + 1 + y2 := IntWalk.i64_in _ (by omega); clear hds hon hbB))))
          all_goals
            go_wp2_with fail
            go_roundw
            case rel => exact ⟨k + 1, g', c', _, t, ar + 1 + y2, rfl, rfl, rfl, by go_num, by omega, t0.1, by omega, by omega, by omega, (HNY.out.less (fun p hp => .tail _ hp)).mono (by omega), hPg'⟩
            case measure => simp [intOf]; omega
        · go_wp2_with fail
          ((with_reducible refine (pick_ds (by repeat (first | exact HD.out | apply DS.alloc | apply DS.drewN | apply DS.drew)) (by omega) (by omega) (by omega)).mono ?_); rintro e wp1 ⟨p1, rfl, p10, p11, hds, hon⟩; have Hp1 := Lib.hid hon; clear HD; have HD := Lib.hid hds; clear hds hon)
          have HN2 := Lib.hid (HN.out.go HD.out Hp1.out)
          clear HN Hp1
          go_wp2_with fail
          ((with_reducible refine (pick_ds (by repeat (first | exact HD.out | apply DS.alloc | apply DS.drewN | apply DS.drew)) (by omega) (by omega) (by omega)).mono ?_); rintro e wp2 ⟨p2, rfl, p20, p21, hds, hon⟩; have Hp2 := Lib.hid hon; clear HD; have HD := Lib.hid hds; clear hds hon)
          have HN := Lib.hid (HN2.out.go HD.out Hp2.out)
          clear HN2 Hp2
          go_wp2_with fail
          go_roundw
          case rel => exact ⟨k + 1, g', c', _, p1, p2, rfl, rfl, rfl, by go_num, by omega, p10, by omega, p20, by omega, (HN.out.less (fun p hp => .tail _ hp)).mono (by omega), hPg'⟩
          case measure => simp [intOf]; omega
    · go_wp2_with fail
      go_ret
      exact ⟨g, k, c, xs, rfl, by omega, hk, (HN.out.less (fun p hp => by cases hp)).mono (by omega)⟩

end My
end Go.Proofs.YtjmlekhgnbbjoaaGreatDoor
