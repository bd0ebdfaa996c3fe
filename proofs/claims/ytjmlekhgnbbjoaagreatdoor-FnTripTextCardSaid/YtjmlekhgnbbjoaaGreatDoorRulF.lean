/- The drawing function of small rules. -/
import Derived.Test.YtjmlekhgnbbjoaaGreatDoorRulE
namespace Go.Proofs.YtjmlekhgnbbjoaaGreatDoor
open Go.RowKit Go.Deep
set_option linter.unusedVariables false
namespace My

theorem RuleC.slices {S : Nat → Option BK} {d : Nat} {op num : Int} {s : ByteArray} {kids marks : Value} (h : RuleC S d op num s kids marks) : (∃ a n c, kids = .slice a n c) ∧ ∃ a n c, marks = .slice a n c := by
  rcases h with ⟨_, _, _, rfl, rfl⟩ | ⟨_, _, _, rfl, rfl⟩ | ⟨_, _, _, _, ⟨g, c, q, rfl, _⟩, hk⟩
  · exact ⟨⟨_, _, _, rfl⟩, _, _, _, rfl⟩
  · exact ⟨⟨_, _, _, rfl⟩, _, _, _, rfl⟩
  · rcases hk with ⟨_, rfl⟩ | ⟨_, _, _, _, rfl, _⟩
    · exact ⟨⟨_, _, _, rfl⟩, _, _, _, rfl⟩
    · exact ⟨⟨_, _, _, rfl⟩, _, _, _, rfl⟩

set_option maxRecDepth 100000 in
set_option maxHeartbeats 4000000 in
theorem l14Small_any {S : Nat → Option BK} {R K : Nat} {a : Option Addr} {len cap : Nat} {w : World} (gn nn cn : Nat) (hK : K ≤ 100000) (h : DS w S R K a len cap [] w) (hn : NamesIn w gn nn) (hn1 : 1 ≤ nn) (hn2 : nn ≤ 10) (hn3 : nn ≤ cn) (hgR : gn ≠ R) (hg : gn < w.heap.size) :
    Calls Tryz.prog 57 #[.pointer (some ⟨R, 0, none⟩), .slice (some ⟨gn, 0, none⟩) nn cn] w (RulePost S 5 R (K + 80000) a len cap w) := by
  have hnk4 : nK 4 = 18750 := rfl
  have HD0 := Lib.hid (h.box #[.int .i64 0, .int .i64 0, .string ⟨#[]⟩, .slice none 0 0, .slice none 0 0] 89)
  have HN := Lib.hid hn
  clear h hn
  obtain ⟨B, hB⟩ : ∃ B, B = w.heap.size := ⟨_, rfl⟩
  go_enter Tryz.func57, Tryz.ntmps57
  go_wp2_with fail
  rw [← hB] at HD0
  rw [← hB]
  have HB0 : Hid (w.heap.size ≤ B) := Nat.le_of_eq hB.symm
  have HBE := Lib.hid hB
  clear hB
  go_loopw [5] (fun kv wr => ∃ (k : Nat) (S' : Nat → Option BK), kv = .int .i64 k ∧ k ≤ 4 ∧ More B S S' ∧ DS w S' R (K + k * 18751) a len cap [(B, .cells #[.int .i64 0, .int .i64 0, .string ⟨#[]⟩, .slice none 0 0, .slice none 0 0] 89 (0, 0))] wr) (fun kv _ => 4 - (intOf kv).toNat)
  case atStart => exact ⟨0, S, rfl, by omega, More.refl _ _, by rw [show K + 0 * 18751 = K from by omega]; exact HD0.out⟩
  case round =>
    obtain ⟨k, S', rfl, hk, hm, hds⟩ := hrel
    clear HD0
    obtain ⟨wo, rfl⟩ : ∃ wo, wo = wr := ⟨_, rfl⟩
    have HD := Lib.hid hds
    have HM := Lib.hid hm
    clear hm hds
    by_cases hk4 : k < 4
    · go_wp2_with fail
      ((with_reducible refine (pick_ds (by repeat (first | exact HD.out | apply DS.alloc | apply DS.drewN | apply DS.drew)) (by omega) (by omega) (by omega)).mono ?_); rintro e wx ⟨x, rfl, x0, x1, hds, hon⟩; have Hx := Lib.hid hon; clear HD; have HD := Lib.hid hds; clear hds hon)
      go_wp2_with fail
      refine (l14Rule_any gn nn cn hn1 hn2 hn3 4 (1 + x) S' R (K + k * 18751 + 1) a len cap _ (by omega) (by omega) (by omega) (by omega) HD.out.here (HN.out.only HD.out.on hg hgR) hgR (Nat.lt_of_lt_of_le hg HD.out.on.size)).mono ?_
      rintro e wE ⟨S2, op, num, s, kids, marks, rfl, hc, hm2, hd2⟩
      obtain ⟨⟨ak, nk, ck, rfl⟩, am, nm, cm, rfl⟩ := hc.slices
      have hwx := HD.out.on.size
      have HDX := Lib.hid ((HD.out.call hd2 hm2).box #[.int .i64 op, .int .i64 num, .string s, .slice ak nk ck, .slice am nm cm] 89)
      have HM2 := Lib.hid (HM.out.trans hm2 (by have := HBE.out; omega))
      have HC := Lib.hid hc
      have hBXw : B < wE.heap.size := heap_lt ((HD.out.call hd2 hm2).loc _ (.head _)).2.1
      clear HD Hx hd2 hm2 hc hwx
      go_upto_region 5 with fail
      obtain ⟨X, hX⟩ : ∃ X, X = wE.heap.size := ⟨_, rfl⟩
      obtain ⟨w1, hw1⟩ : ∃ w1, w1 = wE.alloc (.cells #[.int .i64 op, .int .i64 num, .string s, .slice ak nk ck, .slice am nm cm] 89) := ⟨_, rfl⟩
      have hBX : B < X := by rw [hX]; exact hBXw
      clear hBXw
      rw [← hX, ← hw1] at HDX
      rw [← hX, ← hw1]
      obtain ⟨-, hbX, -⟩ := HDX.out.loc _ (.head _)
      have c0 := cell_of hbX 0
      have c1 := cell_of hbX 1
      have c2 := cell_of hbX 2
      have c3 := cell_of hbX 3
      have c4 := cell_of hbX 4
      simp at c0 c1 c2 c3 c4
      clear hbX
      clear hX hw1
      go_wp2_with (go_at_call 76; ((with_reducible refine (RuleOk_any (d := 5) _ (by omega) HC.out HDX.out.rows).mono ?_); rintro e wF ⟨⟨b, rfl⟩, hbb⟩; have HDF := Lib.hid (HDX.out.below hbb); clear hbb; obtain ⟨-, hbX, -⟩ := HDF.out.loc _ (.head _); obtain ⟨hB1, hbB, hB3⟩ := HDF.out.loc _ (.tail _ (.head _)); have HB3 := Lib.hid hB3; have c0 := cell_of hbX 0; have c1 := cell_of hbX 1; have c2 := cell_of hbX 2; have c3 := cell_of hbX 3; have c4 := cell_of hbX 4; have d0 := cell_of hbB 0; have d1 := cell_of hbB 1; have d2 := cell_of hbB 2; have d3 := cell_of hbB 3; have d4 := cell_of hbB 4; have g0 := frozen_of hbB 0; have g1 := frozen_of hbB 1; have g2 := frozen_of hbB 2; have g3 := frozen_of hbB 3; have g4 := frozen_of hbB 4; simp at c0 c1 c2 c3 c4 d0 d1 d2 d3 d4; have hXB : ¬ X = B := (by omega); clear hbX hbB hB1 hB3))
      · have hBw0 : w.heap.size ≤ B := (HDF.out.loc _ (.tail _ (.head _))).1
        refine bodyPost_ret (v := .agg #[.int .i64 op, .int .i64 num, .string s, .slice ak nk ck, .slice am nm cm]) (by simp [results, Tryz.results57, go_sem, d0, d1, d2, d3, d4]) rfl ⟨S2, op, num, s, _, _, rfl, HC.out, by have := HM2.out; rwa [HBE.out] at this, ?_⟩
        have hnil : ∀ b p, p ∈ ([] : List (Nat × Obj)) → p ∈ ([] : List (Nat × Obj)) ∧ p.1 ≠ b := fun b p hp => by cases hp
        exact ((((((HDF.out.less (L' := []) (fun p hp => by cases hp)).set 0 _ hBw0 HB3.out (hnil _)).set 1 _ hBw0 HB3.out (hnil _)).set 2 _ hBw0 HB3.out (hnil _)).set 3 _ hBw0 HB3.out (hnil _)).set 4 _ hBw0 HB3.out (hnil _)).mono (by omega)
      · refine ⟨⟨k + 1, S2, by go_num, hk4, HM2.out, (HDF.out.less (fun p hp => .tail _ hp)).mono (by omega)⟩, by simp [intOf]; omega⟩
    · obtain ⟨v, hv, s, rfl, hs⟩ := HN.out.only HD.out.on hg hgR 0 (by omega)
      obtain ⟨hB1, hbB, hB3⟩ := HD.out.loc _ (.head _)
      have HB3 := Lib.hid hB3
      have hBw0 : w.heap.size ≤ B := hB1
      have d0 := cell_of hbB 0
      have d1 := cell_of hbB 1
      have d2 := cell_of hbB 2
      have d3 := cell_of hbB 3
      have d4 := cell_of hbB 4
      have g0 := frozen_of hbB 0
      have g1 := frozen_of hbB 1
      have g2 := frozen_of hbB 2
      have g3 := frozen_of hbB 3
      have g4 := frozen_of hbB 4
      simp at d0 d1 d2 d3 d4
      have HS := Lib.hid hs
      clear hbB hB1 hB3 hs
      go_wp2_with fail
      refine bodyPost_ret (v := .agg #[.int .i64 2, .int .i64 0, .string s, .slice none 0 0, .slice none 0 0]) (by simp [results, Tryz.results57, go_sem, d0, d1, d2, d3, d4]) rfl ⟨S', 2, 0, s, _, _, rfl, Or.inr (Or.inl ⟨rfl, rfl, HS.out, rfl, rfl⟩), by have := HM.out; rwa [HBE.out] at this, ?_⟩
      have hnil : ∀ b p, p ∈ ([] : List (Nat × Obj)) → p ∈ ([] : List (Nat × Obj)) ∧ p.1 ≠ b := fun b p hp => by cases hp
      exact ((((((HD.out.less (L' := []) (fun p hp => by cases hp)).set 0 _ hBw0 HB3.out (hnil _)).set 1 _ hBw0 HB3.out (hnil _)).set 2 _ hBw0 HB3.out (hnil _)).set 3 _ hBw0 HB3.out (hnil _)).set 4 _ hBw0 HB3.out (hnil _)).mono (by omega)

end My
end Go.Proofs.YtjmlekhgnbbjoaaGreatDoor
