/- The drawing function of trips. -/
import Derived.Test.YtjmlekhgnbbjoaaGreatDoorTrpP
namespace Go.Proofs.YtjmlekhgnbbjoaaGreatDoor
open Go.RowKit Go.Deep
set_option linter.unusedVariables false
namespace My

theorem infoStr9 : (Tryz.prog.info? 9).map (fun i => (i.zero, i.size, i.bytes)) = some (some (.string ⟨#[]⟩), 1, 16) := by kernel_rfl
def trip1G (R gf m cf B : Nat) (d : Nat) (v : Value) (w : World) : Prop :=
  match d with
  | 15 => ∃ y : Nat, v = .int .i64 (y : Int) ∧ y < m
  | 16 => ∃ y : Nat, v = .pointer (some ⟨gf, y * 3, none⟩) ∧ y < m
  | 17 => ∃ y : Nat, v = .pointer (some ⟨gf, y * 3, none⟩) ∧ y < m
  | 18 => ∃ s : ByteArray, v = .string s ∧ s.size ≤ 10
  | 20 => ∃ y : Int, v = .int .i64 y ∧ 0 ≤ y ∧ y < 2
  | 21 => ∃ y : Int, v = .int .i64 y ∧ 0 ≤ y ∧ y ≤ 5
  | 22 => ∃ (s : ByteArray) (y : Int), v = .agg #[.slice none 0 0, .string s, .int .i64 y] ∧ s.size ≤ 10 ∧ 0 ≤ y ∧ y ≤ 5
  | 7 => ∃ t : Nat, v = .pointer (some ⟨t, 0, none⟩) ∧ B < t ∧ w.heap[t]? = some tripZ
  | 11 | 13 => v = .slice (some ⟨gf, 0, none⟩) m cf
  | 12 | 19 => v = .pointer (some ⟨R, 0, none⟩)
  | 14 => v = .int .i64 (m : Int)
  | _ => True
theorem trip1_stable (R gf m cf B : Nat) {d : Nat} {v : Value} {w w' : World} (hb : Only R w w') (hRB : R < B) (h : trip1G R gf m cf B d v w) : trip1G R gf m cf B d v w' := by
  unfold trip1G at h ⊢
  split at h
  · exact h
  · exact h
  · exact h
  · exact h
  · exact h
  · exact h
  · exact h
  · obtain ⟨t, e, h1, h2⟩ := h; exact ⟨t, e, h1, (hb.block t (heap_lt h2) (by simp; omega)).trans h2⟩
  all_goals exact h

/-- What l14Trip leaves. -/
def TripPost (R K : Nat) (a : Option Addr) (len cap : Nat) (w : World) (e : Ending) (w' : World) : Prop :=
  ∃ (v : Value) (n : Nat) (f : ByteArray) (s : Int), e = .returned (.agg #[v, .string f, .int .i64 s]) ∧ n ≤ 10 ∧ f.size ≤ 10 ∧ SR w' w.heap.size v n ∧ DS w noS R K a len cap [] w'

set_option maxRecDepth 100000 in
set_option maxHeartbeats 4000000 in
theorem l14Trip_any {R K gn n cn gf m cf : Nat} {a : Option Addr} {len cap : Nat} {w : World} (hK : K ≤ 1000000) (h : DS w noS R K a len cap [] w) (hnet : NetIn w gn n) (hn1 : 1 ≤ n) (hn6 : n ≤ 6) (hcn : n ≤ cn) (hgn : gn ≠ R) (hfare : FareIn w gf m) (hm1 : 1 ≤ m) (hm3 : m ≤ 3) (hcf : m ≤ cf) (hgf : gf ≠ R) :
    Calls Tryz.prog 40 #[.pointer (some ⟨R, 0, none⟩), .slice (some ⟨gn, 0, none⟩) n cn, .slice (some ⟨gf, 0, none⟩) m cf] w (TripPost R (K + 100) a len cap w) := by
  obtain ⟨i0, hi0, hz0, hz1, hz2⟩ := info_parts infoStr9
  have HR0 : Hid (R < w.heap.size) := h.lt
  have HD := Lib.hid (h.box #[.slice none 0 0, .string ⟨#[]⟩, .int .i64 0] 26)
  have HFA0 := Lib.hid (hfare.go ((Only.refl R w).alloc (.cells #[.slice none 0 0, .string ⟨#[]⟩, .int .i64 0] 26)) hgf)
  have HNE := Lib.hid (hnet.go ((Only.refl R w).alloc (.cells #[.slice none 0 0, .string ⟨#[]⟩, .int .i64 0] 26)) hgn)
  have hgnw := hnet.lt
  clear h hfare hnet
  go_enter Tryz.func40, Tryz.ntmps40
  go_upto_region 1 with fail
  obtain ⟨w1, hw1⟩ : ∃ w1, w1 = w.alloc (.cells #[.slice none 0 0, .string ⟨#[]⟩, .int .i64 0] 26) := ⟨_, rfl⟩
  rw [← hw1] at HD HFA0 HNE
  rw [← hw1]
  have HFA := HFA0
  obtain ⟨B, hB⟩ : ∃ B, B = w.heap.size := ⟨_, rfl⟩
  rw [← hB] at HD
  rw [← hB]
  have HRB : Hid (R < B) := (by rw [hB]; exact HR0.out)
  have HBE := Lib.hid hB
  have HD : Hid (DS w noS R K a len cap [(B, tripZ)] w1) := HD
  clear hw1 HFA0 hB
  refine wp_region_tail 13 (by decide) (by kernel_rfl) [11, 12, 13, 14, 15, 16, 17, 18, 19, 20, 21, 22, 7]
    (trip1G R gf m cf B) (fun n w' => DS w noS R (K + n) a len cap [(B, tripZ)] w' ∧ Only R w1 w') (Only R) (Only.refl R) (fun _ _ _ => Only.trans) ?stable
    [11, 12, 13, 14, 15, 16, 17, 18, 19, 20, 21, 22, 7] (by kernel_rfl) (by kernel_rfl) (by kernel_rfl) ⟨HD.out.drew, (Only.refl _ _).drew⟩ ?step ?fin
  case stable => exact fun d v w w' hS hG => trip1_stable _ _ _ _ _ hS HRB.out hG
  case step =>
    refine ⟨?_, ?_, ?_, ?_, ?_, ?_, ?_, ?_, ?_, ?_, ?_, ?_, ?_, trivial⟩
    all_goals intro nq f wx hnq hI hS haf
    all_goals have HI := Lib.hid hI
    all_goals clear hI hS
    · simp [frameOf, goFrame]; go_simp; have hn : nq < 14 := hnq; exact ⟨⟨HI.out.1.mono (by omega), HI.out.2⟩, Only.refl _ _, rfl⟩
    · simp [frameOf, goFrame]; go_simp; have hn : nq < 14 := hnq; exact ⟨⟨HI.out.1.mono (by omega), HI.out.2⟩, Only.refl _ _, rfl⟩
    · simp [frameOf, goFrame]; go_simp; have hn : nq < 14 := hnq; exact ⟨⟨HI.out.1.mono (by omega), HI.out.2⟩, Only.refl _ _, rfl⟩
    · have h13 : f 13 = .slice (some ⟨gf, 0, none⟩) m cf := (by first | exact haf.1 | exact haf.2.1 | exact haf.2.2.1 | exact haf.2.2.2.1 | exact haf.2.2.2.2.1 | exact haf.2.2.2.2.2.1 | exact haf.2.2.2.2.2.2.1 | exact haf.2.2.2.2.2.2.2.1 | exact haf.2.2.2.2.2.2.2.2.1); simp [frameOf, goFrame, h13]; go_simp; have hn : nq < 14 := hnq; exact ⟨⟨HI.out.1.mono (by omega), HI.out.2⟩, Only.refl _ _, rfl⟩
    · have h12 : f 12 = .pointer (some ⟨R, 0, none⟩) := (by first | exact haf.1 | exact haf.2.1 | exact haf.2.2.1 | exact haf.2.2.2.1 | exact haf.2.2.2.2.1 | exact haf.2.2.2.2.2.1 | exact haf.2.2.2.2.2.2.1 | exact haf.2.2.2.2.2.2.2.1 | exact haf.2.2.2.2.2.2.2.2.1); have h14 : f 14 = .int .i64 (m : Int) := (by first | exact haf.1 | exact haf.2.1 | exact haf.2.2.1 | exact haf.2.2.2.1 | exact haf.2.2.2.2.1 | exact haf.2.2.2.2.2.1 | exact haf.2.2.2.2.2.2.1 | exact haf.2.2.2.2.2.2.2.1 | exact haf.2.2.2.2.2.2.2.2.1); simp [frameOf, goFrame, h12, h14]; go_simp; have hn : nq < 14 := hnq; refine (pick_ds (n := (m : Int)) HI.out.1 (by omega) (by omega) (by omega)).mono ?_; rintro e wy ⟨y, rfl, y0, y1, hds, hon⟩; exact ⟨⟨hds.mono (by omega), HI.out.2.trans hon⟩, hon, y.toNat, by congr 1; omega, by omega⟩
    · have h11 : f 11 = .slice (some ⟨gf, 0, none⟩) m cf := (by first | exact haf.1 | exact haf.2.1 | exact haf.2.2.1 | exact haf.2.2.2.1 | exact haf.2.2.2.2.1 | exact haf.2.2.2.2.2.1 | exact haf.2.2.2.2.2.2.1 | exact haf.2.2.2.2.2.2.2.1 | exact haf.2.2.2.2.2.2.2.2.1); obtain ⟨y15, h15, l15⟩ : ∃ y : Nat, f 15 = .int .i64 (y : Int) ∧ y < m := (by first | exact haf.1 | exact haf.2.1 | exact haf.2.2.1 | exact haf.2.2.2.1 | exact haf.2.2.2.2.1 | exact haf.2.2.2.2.2.1 | exact haf.2.2.2.2.2.2.1 | exact haf.2.2.2.2.2.2.2.1 | exact haf.2.2.2.2.2.2.2.2.1); have yy : (0 : Int) ≤ (y15 : Int) ∧ (y15 : Int) < (m : Int) := ⟨by omega, by omega⟩; simp [frameOf, goFrame, h11, h15]; go_simp; have hn : nq < 14 := hnq; exact ⟨⟨HI.out.1.mono (by omega), HI.out.2⟩, Only.refl _ _, y15, rfl, l15⟩
    · obtain ⟨y16, h16, l16⟩ : ∃ y : Nat, f 16 = .pointer (some ⟨gf, y * 3, none⟩) ∧ y < m := (by first | exact haf.1 | exact haf.2.1 | exact haf.2.2.1 | exact haf.2.2.2.1 | exact haf.2.2.2.2.1 | exact haf.2.2.2.2.2.1 | exact haf.2.2.2.2.2.2.1 | exact haf.2.2.2.2.2.2.2.1 | exact haf.2.2.2.2.2.2.2.2.1); simp [frameOf, goFrame, h16]; go_simp; have hn : nq < 14 := hnq; exact ⟨⟨HI.out.1.mono (by omega), HI.out.2⟩, Only.refl _ _, y16, rfl, l16⟩
    · obtain ⟨y17, h17, l17⟩ : ∃ y : Nat, f 17 = .pointer (some ⟨gf, y * 3, none⟩) ∧ y < m := (by first | exact haf.1 | exact haf.2.1 | exact haf.2.2.1 | exact haf.2.2.2.1 | exact haf.2.2.2.2.1 | exact haf.2.2.2.2.2.1 | exact haf.2.2.2.2.2.2.1 | exact haf.2.2.2.2.2.2.2.1 | exact haf.2.2.2.2.2.2.2.2.1); obtain ⟨s, cs, zs⟩ := (HFA.out.go HI.out.2 hgf).nm y17 l17; simp [frameOf, goFrame, h17]; go_simp; have hn : nq < 14 := hnq; exact ⟨⟨HI.out.1.mono (by omega), HI.out.2⟩, Only.refl _ _, s, rfl, zs⟩
    · simp [frameOf, goFrame]; go_simp; have hn : nq < 14 := hnq; exact ⟨⟨HI.out.1.mono (by omega), HI.out.2⟩, Only.refl _ _, rfl⟩
    · have h19 : f 19 = .pointer (some ⟨R, 0, none⟩) := (by first | exact haf.1 | exact haf.2.1 | exact haf.2.2.1 | exact haf.2.2.2.1 | exact haf.2.2.2.2.1 | exact haf.2.2.2.2.2.1 | exact haf.2.2.2.2.2.2.1 | exact haf.2.2.2.2.2.2.2.1 | exact haf.2.2.2.2.2.2.2.2.1); simp [frameOf, goFrame, h19]; go_simp; have hn : nq < 14 := hnq; refine (pick_ds (n := 2) HI.out.1 (by omega) (by omega) (by omega)).mono ?_; rintro e wy ⟨y, rfl, y0, y1, hds, hon⟩; exact ⟨⟨hds.mono (by omega), HI.out.2.trans hon⟩, hon, y, rfl, y0, y1⟩
    · obtain ⟨y20, h20, l20, m20⟩ : ∃ y : Int, f 20 = .int .i64 y ∧ 0 ≤ y ∧ y < 2 := (by first | exact haf.1 | exact haf.2.1 | exact haf.2.2.1 | exact haf.2.2.2.1 | exact haf.2.2.2.2.1 | exact haf.2.2.2.2.2.1 | exact haf.2.2.2.2.2.2.1 | exact haf.2.2.2.2.2.2.2.1 | exact haf.2.2.2.2.2.2.2.2.1); have e1 : IntKind.i64.wrap (1 + y20) = 1 + y20 := IntWalk.i64_in _ (by omega); simp [frameOf, goFrame, h20]; go_simp; have hn : nq < 14 := hnq; exact ⟨⟨HI.out.1.mono (by omega), HI.out.2⟩, Only.refl _ _, _, rfl, by omega, by omega⟩
    · obtain ⟨s18, h18, l18⟩ : ∃ s : ByteArray, f 18 = .string s ∧ s.size ≤ 10 := (by first | exact haf.1 | exact haf.2.1 | exact haf.2.2.1 | exact haf.2.2.2.1 | exact haf.2.2.2.2.1 | exact haf.2.2.2.2.2.1 | exact haf.2.2.2.2.2.2.1 | exact haf.2.2.2.2.2.2.2.1 | exact haf.2.2.2.2.2.2.2.2.1); obtain ⟨y21, h21, l21, m21⟩ : ∃ y : Int, f 21 = .int .i64 y ∧ 0 ≤ y ∧ y ≤ 5 := (by first | exact haf.1 | exact haf.2.1 | exact haf.2.2.1 | exact haf.2.2.2.1 | exact haf.2.2.2.2.1 | exact haf.2.2.2.2.2.1 | exact haf.2.2.2.2.2.2.1 | exact haf.2.2.2.2.2.2.2.1 | exact haf.2.2.2.2.2.2.2.2.1); simp [frameOf, goFrame, h18, h21]; go_simp; have hn : nq < 14 := hnq; exact ⟨⟨HI.out.1.mono (by omega), HI.out.2⟩, Only.refl _ _, s18, y21, rfl, l18, l21, m21⟩
    · have hBx := heap_lt (HI.out.1.loc _ (.head _)).2.1; simp [frameOf, goFrame]; go_simp; have hn : nq < 14 := hnq; exact ⟨⟨(HI.out.1.alloc _).mono (by omega), HI.out.2.alloc _⟩, (Only.refl _ _).alloc _, wx.heap.size, rfl, hBx, blk_alloc_new _ _⟩
  case fin =>
    intro nq f wx hnq hI hS hG
    obtain ⟨t7, h7, l7, k7⟩ : ∃ t : Nat, f 7 = .pointer (some ⟨t, 0, none⟩) ∧ B < t ∧ wx.heap[t]? = some tripZ := hG 12 _ 7 (by decide) rfl rfl
    obtain ⟨s22, y22, h22, l22, m22, n22⟩ : ∃ (s : ByteArray) (y : Int), f 22 = .agg #[.slice none 0 0, .string s, .int .i64 y] ∧ s.size ≤ 10 ∧ 0 ≤ y ∧ y ≤ 5 := hG 11 _ 22 (by decide) rfl rfl
    have HI := Lib.hid hI
    have hn13 : nq ≤ 13 := hnq
    obtain ⟨X, rfl⟩ : ∃ X, X = t7 := ⟨_, rfl⟩
    have hkX : wx.heap[X]? = some (.cells #[.slice none 0 0, .string ⟨#[]⟩, .int .i64 0] 26 (0, 0)) := k7
    have hBw : w.heap.size = B := HBE.out.symm
    have hxl : ∀ p, p ∈ [(B, tripZ)] → p.1 ≠ X := by
      intro p hp
      simp at hp
      subst hp
      simp
      omega
    have HT0 := Lib.hid (trip_lay (.slice none 0 0) (.string s22) (.int .i64 y22) (HI.out.1.add (by omega) hkX rfl) hxl)
    have HT : Hid (TS w R (K + nq) a len cap X [(B, tripZ)] (.slice none 0 0) 0 s22 y22 gn n (((wx.setCell ⟨X, 0, none⟩ (.slice none 0 0)).setCell ⟨X, 1, none⟩ (.string s22)).setCell ⟨X, 2, none⟩ (.int .i64 y22))) :=
      ⟨HT0.out, SR.none _ _, (((HNE.out.go HI.out.2 hgn).set (by omega) 0 _).set (by omega) 1 _).set (by omega) 2 _, ⟨by omega, hgn⟩, fun p hp => ⟨hxl p hp, by simp [Value.ownBlock]⟩, l22⟩
    have t0 := cell_of hkX 0
    have u0 := frozen_of hkX 0
    have t1 := cell_of hkX 1
    have u1 := frozen_of hkX 1
    have t2 := cell_of hkX 2
    have u2 := frozen_of hkX 2
    simp at t0 t1 t2
    clear hG hS hnq hI k7 HT0 HI HNE hxl hkX
    change Oper.wp Tryz.prog _ _ _ (fun a' w' => TailOk Tryz.prog _ _ a' w') _
    simp [frameOf, goFrame, TailOk, h7, h22]
    go_simp
    try simp only [TailOk, List.drop]
    clear h7 h22
    obtain ⟨wo, hwo⟩ : ∃ wo, wo = (((wx.setCell ⟨X, 0, none⟩ (.slice none 0 0)).setCell ⟨X, 1, none⟩ (.string s22)).setCell ⟨X, 2, none⟩ (.int .i64 y22)) := ⟨_, rfl⟩
    rw [← hwo] at HT
    rw [← hwo]
    clear hwo t0 u0 t1 u1 t2 u2
    have HD := Lib.hid HT.out.ds
    go_upto_if 25 with ((with_reducible refine (pick_ds (by repeat (first | exact HD.out | apply DS.alloc | apply DS.drewN | apply DS.drew)) (by omega) (by omega) (by omega)).mono ?_); rintro e wx ⟨x, rfl, x0, x1, hds, hon⟩; have Hx := Lib.hid hon; clear HD; have HD := Lib.hid hds; clear hds hon)
    have HT1 := Lib.hid (HT.out.go HD.out Hx.out)
    clear HT Hx
    have HT := HT1
    clear HT1
    go_cut [7] from 23 to 28 (fun v wc => ∃ (s : Int) (K' : Nat), v = .pointer (some ⟨X, 0, none⟩) ∧ K' ≤ K + 20 ∧ TS w R K' a len cap X [(B, tripZ)] (.slice none 0 0) 0 s22 s gn n wc)
    case first =>
      by_cases hx : x = 0
      · subst hx
        have hkX := HD.out.loc _ (.head _)
        have t2 := cell_of hkX.2.1 2
        have u2 := frozen_of hkX.2.1 2
        simp at t2
        clear hkX
        go_wp2_with fail
        ((with_reducible refine (pick_ds (by repeat (first | exact HD.out | apply DS.alloc | apply DS.drewN | apply DS.drew)) (by omega) (by omega) (by omega)).mono ?_); rintro e wy ⟨y, rfl, y0, y1, hds, hon⟩; have Hy := Lib.hid hon; clear HD; have HD := Lib.hid hds; clear hds hon)
        have HT1 := Lib.hid (HT.out.go HD.out Hy.out)
        have hkX := HD.out.loc _ (.head _)
        have t2' := cell_of hkX.2.1 2
        have u2' := frozen_of hkX.2.1 2
        simp at t2'
        clear hkX t2 u2
        go_wp2_with fail
        go_meet
        exact ⟨y, _, rfl, by omega, HT1.out.setS y⟩
      · go_wp2_with fail
        go_meet
        exact ⟨y22, _, rfl, by omega, HT.out⟩
    case rest =>
      obtain ⟨s, K', rfl, hK', hts⟩ := hcut
      clear HT HD
      obtain ⟨wo2, rfl⟩ : ∃ wo2, wo2 = wc := ⟨_, rfl⟩
      have HT := Lib.hid hts
      have HD := Lib.hid hts.ds
      clear hts
      go_wp2_with fail
      ((with_reducible refine (pick_ds (by repeat (first | exact HD.out | apply DS.alloc | apply DS.drewN | apply DS.drew)) (by omega) (by omega) (by omega)).mono ?_); rintro e wy ⟨y, rfl, y0, y1, hds, hon⟩; have Hy := Lib.hid hon; clear HD; have HD := Lib.hid hds; clear hds hon)
      obtain ⟨k, rfl⟩ : ∃ k : Nat, y = k := ⟨y.toNat, by omega⟩
      have HT1 := Lib.hid (HT.out.go HD.out Hy.out)
      clear HT Hy
      have HT := HT1
      clear HT1
      obtain ⟨nm, fr, tt, dp, ar, cp, a6, n6, c6, a7, n7, c7, a8, n8, c8, a9, n9, c9, hnm, h0, h1, h2, h3, h4, h5, h6, h7, h8, h9⟩ := HT.out.net.cells (i := k) (by omega)
      have q1 : (0 : Int) ≤ (k : Int) := by omega
      have q2 : (k : Int) < (n : Int) := by omega
      go_upto_region 5 with fail
      have HT1 := Lib.hid (HT.out.box #[.string nm, .string fr, .string tt, .int .i64 dp, .int .i64 ar, .int .i64 cp, .slice a6 n6 c6, .slice a7 n7 c7, .slice a8 n8 c8, .slice a9 n9 c9] 80)
      obtain ⟨Y, hY⟩ : ∃ Y, Y = wy.heap.size := ⟨_, rfl⟩
      obtain ⟨w5, hw5⟩ : ∃ w5, w5 = wy.alloc (.cells #[.string nm, .string fr, .string tt, .int .i64 dp, .int .i64 ar, .int .i64 cp, .slice a6 n6 c6, .slice a7 n7 c7, .slice a8 n8 c8, .slice a9 n9 c9] 80) := ⟨_, rfl⟩
      rw [← hY, ← hw5] at HT1
      rw [← hY, ← hw5]
      have hBY : B ≠ Y := by
        have := heap_lt (HT.out.ds.loc _ (.tail _ (.head _))).2.1
        have h : B < wy.heap.size := this
        omega
      clear hY hw5 HT HD h0 h1 h2 h3 h4 h5 h6 h7 h8 h9
      have HT := HT1
      clear HT1
      have hbY := HT.out.ds.loc _ (.tail _ (.head _))
      have d0 := cell_of hbY.2.1 0
      have t0 := cell_of HT.out.blk.1 0
      simp at d0 t0
      obtain ⟨xs, hrow, hxx⟩ := HT.out.sr
      have HROW := Lib.hid hrow
      have HXX := Lib.hid hxx
      clear hrow hxx hbY
      go_wp2_with (at_builtin; go_loud (refine wpList_append_lies _ rfl (.tmp 37) (.tmp 40) 24 rfl w.heap.size 9 i0 (.string ⟨#[]⟩) 1 16 Tryz.underlying24 hi0 hz0 hz1 hz2 rfl (by decide) (.slice none 0 0) 0 xs rfl (HROW.out.kept (World.grownBy_alloc _ _ none) (by simp [Value.ownBlock])) ⟨w5.heap.size, 0, none⟩ 1 1 [.string nm] rfl rfl (news_1 _ _ _) (by simp [Value.oneCell']) (by decide) (by unfold maxLen; omega) (by omega) (by have := HT.out.ds.on.size; simp; omega) (w5.heap.size + 1) (by simp) ?_; intro g' c' w4 hown hgrow hat hlt4; have HP := Lib.hid (HT.out.push HXX.out hnm hown HROW.out hgrow hat); clear hown hgrow hat; have t0 := cell_of (HP.out.2.loc _ (.head _)).2.1 0; have u0 := frozen_of (HP.out.2.loc _ (.head _)).2.1 0; simp at t0))
      have HT1 : Hid (TS w R (K' + 1) a len cap X [(Y, .cells #[.string nm, .string fr, .string tt, .int .i64 dp, .int .i64 ar, .int .i64 cp, .slice a6 n6 c6, .slice a7 n7 c7, .slice a8 n8 c8, .slice a9 n9 c9] 80 (0, 0)), (B, tripZ)] (.slice (some ⟨g', 0, none⟩) 1 c') 1 s22 s gn n (w4.setCell ⟨X, 0, none⟩ (.slice (some ⟨g', 0, none⟩) 1 c'))) := HP.out.1
      obtain ⟨w6, hw6⟩ : ∃ w6, w6 = w4.setCell ⟨X, 0, none⟩ (.slice (some ⟨g', 0, none⟩) 1 c') := ⟨_, rfl⟩
      rw [← hw6] at HT1
      rw [← hw6]
      clear HT HP HROW HXX hw6 t0 u0 d0
      have HT := HT1
      clear HT1
      have HD := Lib.hid HT.out.ds
      ((with_reducible refine (pick_ds (by repeat (first | exact HD.out | apply DS.alloc | apply DS.drewN | apply DS.drew)) (by omega) (by omega) (by omega)).mono ?_); rintro e wj ⟨j, rfl, j0, j1, hds, hon⟩; have Hj := Lib.hid hon; clear HD; have HD := Lib.hid hds; clear hds hon)
      have HT1 := Lib.hid (HT.out.go HD.out Hj.out)
      clear HT HD Hj
      have HT := HT1
      clear HT1
      go_wp2_with fail
      go_loopw [9] (fun jv wr => ∃ (j m K' g c : Nat) (nm fr tt : ByteArray) (dp ar cp : Int) (a6 : Option Addr) (n6 c6 : Nat) (a7 : Option Addr) (n7 c7 : Nat) (a8 : Option Addr) (n8 c8 : Nat) (a9 : Option Addr) (n9 c9 : Nat), jv = .int .i64 j ∧ j ≤ 2 ∧ 1 ≤ m ∧ m + j ≤ 3 ∧ K' + 10 * j ≤ K + 60 ∧ nm.size ≤ 10 ∧ TS w R K' a len cap X [(Y, .cells #[.string nm, .string fr, .string tt, .int .i64 dp, .int .i64 ar, .int .i64 cp, .slice a6 n6 c6, .slice a7 n7 c7, .slice a8 n8 c8, .slice a9 n9 c9] 80 (0, 0)), (B, tripZ)] (.slice (some ⟨g, 0, none⟩) m c) m s22 s gn n wr) (fun jv _ => (intOf jv).toNat)
      case atStart => exact ⟨j.toNat, 1, _, g', c', nm, fr, tt, dp, ar, cp, a6, n6, c6, a7, n7, c7, a8, n8, c8, a9, n9, c9, by congr 1; omega, by omega, by omega, by omega, by omega, hnm, HT.out⟩
      case round =>
        obtain ⟨j, m, K', g, c, nm, fr, tt, dp, ar, cp, a6, n6, c6, a7, n7, c7, a8, n8, c8, a9, n9, c9, rfl, hj, hm1, hmj, hK', hnm, hts⟩ := hrel
        obtain ⟨wo3, rfl⟩ : ∃ wo3, wo3 = wr := ⟨_, rfl⟩
        clear HT
        have HT := Lib.hid hts
        clear hts
        by_cases hj0 : 0 < j
        · go_wp2_with fail
          go_loopw [10] (fun iv wr => ∃ (i K2 : Nat), iv = .int .i64 i ∧ i ≤ n ∧ K2 ≤ K' + i ∧ TS w R K2 a len cap X [(Y, .cells #[.string nm, .string fr, .string tt, .int .i64 dp, .int .i64 ar, .int .i64 cp, .slice a6 n6 c6, .slice a7 n7 c7, .slice a8 n8 c8, .slice a9 n9 c9] 80 (0, 0)), (B, tripZ)] (.slice (some ⟨g, 0, none⟩) m c) m s22 s gn n wr) (fun iv _ => n - (intOf iv).toNat)
          case atStart => exact ⟨0, K', rfl, by omega, by omega, HT.out⟩
          case round =>
            obtain ⟨i, K2, rfl, hi, hK2, hts⟩ := hrel
            obtain ⟨wo4, rfl⟩ : ∃ wo4, wo4 = wr := ⟨_, rfl⟩
            clear HT
            have HT := Lib.hid hts
            clear hts
            by_cases hin : (i : Int) < (n : Int)
            · obtain ⟨nm2, fr2, tt2, dp2, ar2, cp2, b6, m6, d6, b7, m7, d7, b8, m8, d8, b9, m9, d9, hnm2, h0, h1, h2, h3, h4, h5, h6, h7, h8, h9⟩ := HT.out.net.cells (i := i) (by omega)
              have hbY := HT.out.ds.loc _ (.tail _ (.head _))
              have y0 := cell_of hbY.2.1 0
              have y1 := cell_of hbY.2.1 1
              have y2 := cell_of hbY.2.1 2
              have y3 := cell_of hbY.2.1 3
              have y4 := cell_of hbY.2.1 4
              have y5 := cell_of hbY.2.1 5
              have y6 := cell_of hbY.2.1 6
              have y7 := cell_of hbY.2.1 7
              have y8 := cell_of hbY.2.1 8
              have y9 := cell_of hbY.2.1 9
              simp at y0 y1 y2 y3 y4 y5 y6 y7 y8 y9
              have q1 : (0 : Int) ≤ (i : Int) := by omega
              obtain ⟨bb, hbb⟩ : ∃ bb, bb = nextB tt fr2 ar dp2 := ⟨_, rfl⟩
              have HNX : Hid (∀ wx, Calls Tryz.prog 55 #[.agg #[.string nm, .string fr, .string tt, .int .i64 dp, .int .i64 ar, .int .i64 cp, .slice a6 n6 c6, .slice a7 n7 c7, .slice a8 n8 c8, .slice a9 n9 c9], .agg #[.string nm2, .string fr2, .string tt2, .int .i64 dp2, .int .i64 ar2, .int .i64 cp2, .slice b6 m6 d6, .slice b7 m7 d7, .slice b8 m8 d8, .slice b9 m9 d9]] wx fun e w' => e = .returned (.bool bb) ∧ Below wx.heap.size wx w') := by
                intro wx
                rw [hbb]
                exact l8Next_any _ _ _ _ _ _ _ _ _ _ _ _ _ _ _ _ _ _ _ _ _ _ _ _ _ _ _ _ _ _ _ _ _ _ _ _ wx
              clear hbb hbY hnm2
              go_upto_region 12 with fail
              cases bb with
              | false =>
                first | go_region_law (first | ((try go_simp); (go_at_call 55; ((with_reducible refine (HNX.out _).mono ?_); rintro e wn ⟨rfl, hb⟩; have HTN := Lib.hid (HT.out.drew.below hb); clear hb)))) | fail
                all_goals
                  go_wp2_with fail
                  go_roundw
                  case rel => exact ⟨i + 1, K2, by go_num, by omega, by omega, HTN.out⟩
                  case measure => simp [intOf]; omega
              | true =>
                go_region_law (first | ((try go_simp); (go_at_call 55; ((with_reducible refine (HNX.out _).mono ?_); rintro e wn ⟨rfl, hb⟩; have HTN := Lib.hid (HT.out.drew.below hb); clear hb))) | ((try go_simp); (go_at_call 25; ((with_reducible refine (pick_ds (n := 2) (by first | exact HTN.out.ds | exact HTN.out.drew.ds) (by omega) (by omega) (by omega)).mono ?_); rintro e wp ⟨z, rfl, z0, z1, hds, hon⟩; have HTP := Lib.hid (HTN.out.go hds hon); clear hds hon))))
                all_goals
                  by_cases hz : z = 0
                  · subst hz
                    obtain ⟨nm3, fr3, tt3, dp3, ar3, cp3, e6, p6, f6, e7, p7, f7, e8, p8, f8, e9, p9, f9, hnm3, h0', h1', h2', h3', h4', h5', h6', h7', h8', h9'⟩ := HTP.out.net.cells (i := i) (by omega)
                    have hbZ := HTP.out.ds.loc _ (.tail _ (.head _))
                    have z0' := cell_of hbZ.2.1 0
                    have s0' := frozen_of hbZ.2.1 0
                    have z1' := cell_of hbZ.2.1 1
                    have s1' := frozen_of hbZ.2.1 1
                    have z2' := cell_of hbZ.2.1 2
                    have s2' := frozen_of hbZ.2.1 2
                    have z3' := cell_of hbZ.2.1 3
                    have s3' := frozen_of hbZ.2.1 3
                    have z4' := cell_of hbZ.2.1 4
                    have s4' := frozen_of hbZ.2.1 4
                    have z5' := cell_of hbZ.2.1 5
                    have s5' := frozen_of hbZ.2.1 5
                    have z6' := cell_of hbZ.2.1 6
                    have s6' := frozen_of hbZ.2.1 6
                    have z7' := cell_of hbZ.2.1 7
                    have s7' := frozen_of hbZ.2.1 7
                    have z8' := cell_of hbZ.2.1 8
                    have s8' := frozen_of hbZ.2.1 8
                    have z9' := cell_of hbZ.2.1 9
                    have s9' := frozen_of hbZ.2.1 9
                    simp at z0' z1' z2' z3' z4' z5' z6' z7' z8' z9'
                    have HTL := Lib.hid (TS.leg (.string nm3) (.string fr3) (.string tt3) (.int .i64 dp3) (.int .i64 ar3) (.int .i64 cp3) (.slice e6 p6 f6) (.slice e7 p7 f7) (.slice e8 p8 f8) (.slice e9 p9 f9) HTP.out (by intro p hp; simp at hp; subst hp; exact hBY))
                    clear hbZ h0 h1 h2 h3 h4 h5 h6 h7 h8 h9 y0 y1 y2 y3 y4 y5 y6 y7 y8 y9 HNX HTN HT
                    go_upto_region 14 with fail
                    obtain ⟨w7, hw7⟩ : ∃ w7, w7 = (((((((((wp.setCell ⟨Y, 0, none⟩ (.string nm3)).setCell ⟨Y, 1, none⟩ (.string fr3)).setCell ⟨Y, 2, none⟩ (.string tt3)).setCell ⟨Y, 3, none⟩ (.int .i64 dp3)).setCell ⟨Y, 4, none⟩ (.int .i64 ar3)).setCell ⟨Y, 5, none⟩ (.int .i64 cp3)).setCell ⟨Y, 6, none⟩ (.slice e6 p6 f6)).setCell ⟨Y, 7, none⟩ (.slice e7 p7 f7)).setCell ⟨Y, 8, none⟩ (.slice e8 p8 f8)).setCell ⟨Y, 9, none⟩ (.slice e9 p9 f9) := ⟨_, rfl⟩
                    rw [← hw7] at HTL
                    rw [← hw7]
                    clear hw7 z0' z1' z2' z3' z4' z5' z6' z7' z8' z9' s0' s1' s2' s3' s4' s5' s6' s7' s8' s9' h0' h1' h2' h3' h4' h5' h6' h7' h8' h9' HTP
                    have HT := HTL
                    clear HTL
                    have hbY := HT.out.ds.loc _ (.tail _ (.head _))
                    have d0 := cell_of hbY.2.1 0
                    have t0 := cell_of HT.out.blk.1 0
                    simp at d0 t0
                    obtain ⟨xs, hrow, hxx⟩ := HT.out.sr
                    have HROW := Lib.hid hrow
                    have HXX := Lib.hid hxx
                    clear hrow hxx hbY
                    go_wp2_with (at_builtin; go_loud (refine wpList_append_lies _ rfl (.tmp 71) (.tmp 74) 24 rfl w.heap.size 9 i0 (.string ⟨#[]⟩) 1 16 Tryz.underlying24 hi0 hz0 hz1 hz2 rfl (by decide) (.slice (some ⟨g, 0, none⟩) m c) m xs rfl (HROW.out.kept (World.grownBy_alloc _ _ none) (Or.inr (by simp [Value.ownBlock]))) ⟨w7.heap.size, 0, none⟩ 1 1 [.string nm3] rfl rfl (news_1 _ _ _) (by simp [Value.oneCell']) (by decide) (by unfold maxLen; omega) (by omega) (by have := HT.out.ds.on.size; simp; omega) (w7.heap.size + 1) (by simp) ?_; intro g9 c9' w4' hown hgrow hat hlt4; have HP := Lib.hid (HT.out.push HXX.out hnm3 hown HROW.out hgrow hat); clear hown hgrow hat; have t0 := cell_of (HP.out.2.loc _ (.head _)).2.1 0; have u0 := frozen_of (HP.out.2.loc _ (.head _)).2.1 0; simp at t0))
                    go_roundw
                    case rel => exact ⟨j - 1, m + 1, _, g9, c9', nm3, fr3, tt3, dp3, ar3, cp3, e6, p6, f6, e7, p7, f7, e8, p8, f8, e9, p9, f9, by congr 1; omega, by omega, by omega, by omega, by omega, hnm3, HP.out.1⟩
                    case measure => simp [intOf]; omega
                  · go_wp2_with fail
                    go_roundw
                    case rel => exact ⟨i + 1, K2 + 1, by go_num, by omega, by omega, HTP.out⟩
                    case measure => simp [intOf]; omega
            · go_wp2_with fail
              go_roundw
              case rel => exact ⟨j - 1, m, K2, g, c, nm, fr, tt, dp, ar, cp, a6, n6, c6, a7, n7, c7, a8, n8, c8, a9, n9, c9, by congr 1; omega, by omega, hm1, by omega, by omega, hnm, HT.out⟩
              case measure => simp [intOf]; omega
        · have HD := Lib.hid HT.out.ds
          go_upto_if 79 with ((with_reducible refine (pick_ds (by repeat (first | exact HD.out | apply DS.alloc | apply DS.drewN | apply DS.drew)) (by omega) (by omega) (by omega)).mono ?_); rintro e wx ⟨x, rfl, x0, x1, hds, hon⟩; have Hx := Lib.hid hon; clear HD; have HD := Lib.hid hds; clear hds hon)
          have HT1 := Lib.hid (HT.out.go HD.out Hx.out)
          clear HT Hx HD
          have HT := HT1
          clear HT1
          go_cut [7] from 77 to 92 (fun v wc => ∃ (K2 m g c : Nat), v = .pointer (some ⟨X, 0, none⟩) ∧ K2 ≤ K + 80 ∧ m ≤ 4 ∧ TS w R K2 a len cap X [(Y, .cells #[.string nm, .string fr, .string tt, .int .i64 dp, .int .i64 ar, .int .i64 cp, .slice a6 n6 c6, .slice a7 n7 c7, .slice a8 n8 c8, .slice a9 n9 c9] 80 (0, 0)), (B, tripZ)] (.slice (some ⟨g, 0, none⟩) m c) m s22 s gn n wc)
          case first =>
            by_cases hx : x = 0
            · subst hx
              have x0 := cell_of HT.out.blk.1 0
              simp at x0
              go_upto_region 16 with fail
              go_region_law (first | ((try go_simp); (go_at_call 25; ((with_reducible refine (pick_ds (n := (n : Int)) (by first | exact HT.out.ds | exact HT.out.drew.ds) (by omega) (by omega) (by omega)).mono ?_); rintro e wy9 ⟨z, rfl, z0, z1, hds, hon⟩; have HTY := Lib.hid (HT.out.drew.go hds hon); obtain ⟨k9, rfl⟩ : ∃ k9 : Nat, z = k9 := ⟨z.toNat, by omega⟩; obtain ⟨nm3, fr3, tt3, dp3, ar3, cp3, e6, p6, f6, e7, p7, f7, e8, p8, f8, e9, p9, f9, hnm3, h0', -⟩ := HTY.out.net.cells (i := k9) (by omega); have q1' : (0 : Int) ≤ (k9 : Int) := (by omega); have q2' : (k9 : Int) < (n : Int) := (by omega); have t0 := cell_of HTY.out.blk.1 0; simp at t0; obtain ⟨xs, hrow, hxx⟩ := HTY.out.sr; have HROW := Lib.hid hrow; have HXX := Lib.hid hxx; have hwy9 := HTY.out.ds.on.size; have hXw := heap_lt HTY.out.blk.1; clear hds hon hrow hxx))) | (refine step_append_lies _ rfl (.tmp 81) (.tmp 90) 24 rfl w.heap.size 9 i0 (.string ⟨#[]⟩) 1 16 Tryz.underlying24 hi0 hz0 hz1 hz2 rfl (by decide) (.slice (some ⟨g, 0, none⟩) m c) m xs (by simp [Act.eval]) (HROW.out.kept (World.grownBy_alloc _ _ none) (Or.inr (by simp [Value.ownBlock]))) ⟨wy9.heap.size, 0, none⟩ 1 1 [.string nm3] (by simp [Act.eval]) rfl (news_1 _ _ _) (by simp [Value.oneCell']) (by decide) (by unfold maxLen; omega) (by omega) (by simp; omega) (wy9.heap.size + 1) (by simp) ?_; intro g9 c9' w4' hown hgrow hat hlt4; have HP := Lib.hid (HTY.out.push HXX.out hnm3 hown HROW.out hgrow hat); clear hown hgrow hat; have t0 := cell_of (HP.out.2.loc _ (.head _)).2.1 0; have u0 := frozen_of (HP.out.2.loc _ (.head _)).2.1 0; simp at t0))
              all_goals
                go_wp2_with fail
                go_meet
                exact ⟨_, m + 1, g9, c9', rfl, by omega, by omega, HP.out.1⟩
            · go_wp2_with fail
              go_meet
              exact ⟨_, m, g, c, rfl, by omega, by omega, HT.out⟩
          case rest =>
            obtain ⟨K2, m2, g2, c2, rfl, hK2, hm2, hts⟩ := hcut
            clear HT
            obtain ⟨wo5, rfl⟩ : ∃ wo5, wo5 = wc := ⟨_, rfl⟩
            have HT := Lib.hid hts
            have HD := Lib.hid hts.ds
            clear hts
            go_wp2_with fail
            ((with_reducible refine (pick_ds (by repeat (first | exact HD.out | apply DS.alloc | apply DS.drewN | apply DS.drew)) (by omega) (by omega) (by omega)).mono ?_); rintro e wz ⟨z, rfl, z0, z1, hds, hon⟩; have Hz := Lib.hid hon; clear HD; have HD := Lib.hid hds; clear hds hon)
            have HT1 := Lib.hid (HT.out.go HD.out Hz.out)
            clear HT Hz HD
            have HT := HT1
            clear HT1
            by_cases hz : z = 0
            · subst hz
              have hlz := HT.out.ds.here.lt
              have HTA := Lib.hid (HT.out.alloc (.cells #[.string ⟨#[110, 111, 110, 101]⟩, .string ⟨#[65]⟩, .string ⟨#[]⟩] 9))
              go_wp2_with fail
              refine (of_ds (q := 10) HTA.out.ds (by omega) wz.heap.size 3 3 (by omega) (by omega) (by omega) (by omega) (by simp) (fresh_strs _ rfl (by
                intro v hv
                simp at hv
                rcases hv with rfl | rfl | rfl
                all_goals exact ⟨_, rfl, by decide⟩))).mono ?_
              rintro e wv ⟨s9, rfl, hs9, hds, hon⟩
              have HT1 := Lib.hid (HTA.out.go hds hon)
              have hkX := HT1.out.blk.1
              have t1 := cell_of hkX 1
              have u1 := frozen_of hkX 1
              simp at t1
              clear hds hon HT HTA hkX
              go_upto_region 19 with fail
              have HT2 := Lib.hid (HT1.out.setF hs9)
              obtain ⟨w8, hw8⟩ : ∃ w8, w8 = wv.setCell ⟨X, 1, none⟩ (.string s9) := ⟨_, rfl⟩
              rw [← hw8] at HT2
              rw [← hw8]
              clear hw8 t1 u1 HT1
              have HT := HT2
              clear HT2
              have hkX := HT.out.blk.1
              have hkB := (HT.out.ds.loc _ (.tail _ (.tail _ (.head _)))).2.1
              have hXB := (HT.out.xl _ (.tail _ (.head _))).1
              have hoB := (HT.out.xl _ (.tail _ (.head _))).2
              have hXB : B ≠ X := hXB
              have hkB : w8.heap[B]? = some (.cells #[.slice none 0 0, .string ⟨#[]⟩, .int .i64 0] 26 (0, 0)) := hkB
              have t0 := cell_of hkX 0
              have t1 := cell_of hkX 1
              have t2 := cell_of hkX 2
              have b0 := cell_of hkB 0
              have b1 := cell_of hkB 1
              have b2 := cell_of hkB 2
              have f0 := frozen_of hkB 0
              have f1 := frozen_of hkB 1
              have f2 := frozen_of hkB 2
              simp at t0 t1 t2 b0 b1 b2
              clear hkX hkB
              go_wp2_with fail
              have hnil : ∀ p, p ∈ ([] : List (Nat × Obj)) → p ∈ ([] : List (Nat × Obj)) ∧ p.1 ≠ B := fun p hp => by cases hp
              refine bodyPost_ret (v := .agg #[.slice (some ⟨g2, 0, none⟩) m2 c2, .string s9, .int .i64 s]) (by simp [results, Tryz.results40, go_sem, b0, b1, b2]) rfl ⟨_, m2, s9, s, rfl, by omega, hs9, ?_, ?_⟩
              · exact ((HT.out.sr.set 0 _ hoB).set 1 _ hoB).set 2 _ hoB
              · exact (((((HT.out.ds.less (L' := []) (fun p hp => by cases hp)).set 0 _ (by omega) rfl hnil).set 1 _ (by omega) rfl hnil).set 2 _ (by omega) rfl hnil)).mono (by omega)
            · go_upto_region 19 with fail
              obtain ⟨w8, rfl⟩ : ∃ w8, w8 = wz := ⟨_, rfl⟩
              have hkX := HT.out.blk.1
              have hkB := (HT.out.ds.loc _ (.tail _ (.tail _ (.head _)))).2.1
              have hXB := (HT.out.xl _ (.tail _ (.head _))).1
              have hoB := (HT.out.xl _ (.tail _ (.head _))).2
              have hXB : B ≠ X := hXB
              have hkB : w8.heap[B]? = some (.cells #[.slice none 0 0, .string ⟨#[]⟩, .int .i64 0] 26 (0, 0)) := hkB
              have t0 := cell_of hkX 0
              have t1 := cell_of hkX 1
              have t2 := cell_of hkX 2
              have b0 := cell_of hkB 0
              have b1 := cell_of hkB 1
              have b2 := cell_of hkB 2
              have f0 := frozen_of hkB 0
              have f1 := frozen_of hkB 1
              have f2 := frozen_of hkB 2
              simp at t0 t1 t2 b0 b1 b2
              clear hkX hkB
              go_wp2_with fail
              have hnil : ∀ p, p ∈ ([] : List (Nat × Obj)) → p ∈ ([] : List (Nat × Obj)) ∧ p.1 ≠ B := fun p hp => by cases hp
              refine bodyPost_ret (v := .agg #[.slice (some ⟨g2, 0, none⟩) m2 c2, .string s22, .int .i64 s]) (by simp [results, Tryz.results40, go_sem, b0, b1, b2]) rfl ⟨_, m2, s22, s, rfl, by omega, l22, ?_, ?_⟩
              · exact ((HT.out.sr.set 0 _ hoB).set 1 _ hoB).set 2 _ hoB
              · exact (((((HT.out.ds.less (L' := []) (fun p hp => by cases hp)).set 0 _ (by omega) rfl hnil).set 1 _ (by omega) rfl hnil).set 2 _ (by omega) rfl hnil)).mono (by omega)

end My
end Go.Proofs.YtjmlekhgnbbjoaaGreatDoor
