/- The drawing function of fares. -/
import Derived.Test.YtjmlekhgnbbjoaaGreatDoorRulF
import Derived.Deep.CutRange
namespace Go.Proofs.YtjmlekhgnbbjoaaGreatDoor
open Go.RowKit Go.Deep
set_option linter.unusedVariables false
namespace My

theorem infoFare : (Tryz.prog.info? 83).map (fun i => (i.zero, i.size, i.bytes)) = some (some (.agg #[.string ⟨#[]⟩, .int .i64 0, .string ⟨#[]⟩]), 3, 40) := by kernel_rfl
/-- The cells of n fares: each has a name. -/
def FareL (n : Nat) (xs : List Value) : Prop := ∀ i, i < n → ∃ s : ByteArray, xs[i * 3]? = some (.string s) ∧ s.size ≤ 10
theorem FareL.push {n : Nat} {xs : List Value} (h : FareL n xs) (hl : xs.length = n * 3) {s t : ByteArray} {y : Int} (hs : s.size ≤ 10) : FareL (n + 1) (xs ++ [.string s, .int .i64 y, .string t]) := by
  intro i hi
  by_cases e : i = n
  · subst e
    refine ⟨s, ?_, hs⟩
    rw [List.getElem?_append_right (by omega), show i * 3 - xs.length = 0 from by omega]
    rfl
  · obtain ⟨u, h1, h2⟩ := h i (by omega)
    refine ⟨u, ?_, h2⟩
    rw [List.getElem?_append_left (by omega)]
    exact h1
/-- n fares in an own row, and the state. -/
structure FS (w0 : World) (S : Nat → Option BK) (R K : Nat) (a : Option Addr) (len cap : Nat) (g n c : Nat) (xs : List Value) (w : World) : Prop where
  ds : DS w0 S R K a len cap [] w
  row : w.ownsRow w0.heap.size 83 3 (.slice (some ⟨g, 0, none⟩) n c) n xs
  lst : FareL n xs
  sg : S g = none
section
variable {w0 w w' w4 : World} {S S' : Nat → Option BK} {R K K' : Nat} {a : Option Addr} {len cap : Nat} {g n c g' c' : Nat} {xs : List Value}
theorem FS.base (h : FS w0 S R K a len cap g n c xs w) : w0.heap.size ≤ g ∧ g < w.heap.size := h.row.lt g rfl
theorem FS.go (h : FS w0 S R K a len cap g n c xs w) (hd : DS w0 S' R K' a len cap [] w') (hm : More w.heap.size S S') (ho : Only R w w') : FS w0 S' R K' a len cap g n c xs w' := by
  have hb := h.base
  have hlt := h.ds.lt
  exact ⟨hd, h.row.kept ho (Or.inr (by simp [Value.ownBlock]; omega)), h.lst, (hm.2 g hb.2).trans h.sg⟩
theorem FS.alloc (h : FS w0 S R K a len cap g n c xs w) (o : Obj) : FS w0 S R K a len cap g n c xs (w.alloc o) :=
  h.go (h.ds.alloc o) (More.refl _ _) ((Only.refl R w).alloc o)
theorem FS.mono (h : FS w0 S R K a len cap g n c xs w) (hK : K ≤ K') : FS w0 S R K' a len cap g n c xs w := ⟨h.ds.mono hK, h.row, h.lst, h.sg⟩
theorem FS.push (h : FS w0 S R K a len cap g n c xs w) {s t : ByteArray} {y : Int} (hs : s.size ≤ 10) {o : Obj}
    (hown : w4.ownsRow w0.heap.size 83 3 (.slice (some ⟨g', 0, none⟩) (n + 1) c') (n + 1) (xs ++ [.string s, .int .i64 y, .string t]))
    (hgrow : (w.alloc o).grownBy w4 (Value.ownBlock (.slice (some ⟨g, 0, none⟩) n c))) (hat : Value.ownBlock (.slice (some ⟨g, 0, none⟩) n c) = some g' ∨ g' = w.heap.size + 1) :
    FS w0 S R K a len cap g' (n + 1) c' (xs ++ [.string s, .int .i64 y, .string t]) w4 := by
  have hb := h.base
  refine ⟨(h.ds.alloc o).grow hgrow (fun q hq => ?_), hown, h.lst.push h.row.1 hs, ?_⟩
  · simp [Value.ownBlock] at hq
    subst hq
    exact ⟨hb.1, h.sg, fun p hp => by cases hp⟩
  · rcases hat with e | e
    · simp [Value.ownBlock] at e
      subst e
      exact h.sg
    · exact h.ds.rows.fresh (by omega)
theorem FS.start (h : DS w0 S R K a len cap [] w) {s t : ByteArray} {y : Int} (hs : s.size ≤ 10) :
    FS w0 S R K a len cap w.heap.size 1 1 [.string s, .int .i64 y, .string t] (w.alloc (.cells #[.string s, .int .i64 y, .string t] 83)) :=
  ⟨h.alloc _, World.ownsRow_lit w #[.string s, .int .i64 y, .string t] 1 h.on.size (by simp [maxLen]) rfl, fun i hi => ⟨s, by rw [show i = 0 from by omega]; rfl, hs⟩, h.rows.fresh (Nat.le_refl _)⟩
end
theorem news_3 (w : World) (u v x : Value) (t : TypeId) : ∀ j y, [u, v, x][j]? = some y → (w.alloc (.cells #[u, v, x] t)).cell? (Addr.add ⟨w.heap.size, 0, none⟩ j) = some y :=
  World.news_of_block (blk_alloc_new w (.cells #[u, v, x] t))

/-- A row of texts that was built just now. -/
theorem fresh_strs {w : World} {vs : Array Value} {t : TypeId} {q : Nat} (n : Nat) (hn : n = vs.size) (hall : ∀ v, v ∈ vs → StrIn q v) : ∀ i, i < n → ∃ v, (w.alloc (.cells vs t)).cell? ⟨w.heap.size, i, none⟩ = some v ∧ StrIn q v := by
  intro i hi
  subst hn
  refine ⟨vs[i], ?_, hall _ (Array.getElem_mem hi)⟩
  rw [box_cell]
  simp [hi]

/-- What l14Fares leaves. -/
def FaresPost (S : Nat → Option BK) (R K : Nat) (a : Option Addr) (len cap : Nat) (w : World) (e : Ending) (w' : World) : Prop :=
  ∃ (S' : Nat → Option BK) (g n c : Nat) (xs : List Value), e = .returned (.slice (some ⟨g, 0, none⟩) n c) ∧ 1 ≤ n ∧ n ≤ 3 ∧ More w.heap.size S S' ∧ FS w S' R K a len cap g n c xs w'

set_option maxRecDepth 100000 in
set_option maxHeartbeats 4000000 in
theorem l14Fares_any {S : Nat → Option BK} {R K : Nat} {a : Option Addr} {len cap : Nat} {w : World} (hK : K ≤ 10000) (h : DS w S R K a len cap [] w) :
    Calls Tryz.prog 41 #[.pointer (some ⟨R, 0, none⟩)] w (FaresPost S R (K + 90000) a len cap w) := by
  obtain ⟨i0, hi0, hz0, hz1, hz2⟩ := info_parts infoFare
  have HD0 := Lib.hid h
  clear h
  go_enter Tryz.func41, Tryz.ntmps41
  go_upto_region 2 with fail
  have HF := Lib.hid (FS.start (s := ⟨#[102, 117, 108, 108]⟩) (t := ⟨#[109, 117, 108, 40, 108, 101, 103, 115, 44, 53, 48, 48, 41]⟩) (y := 0) HD0.out (by decide))
  obtain ⟨w1, hw1⟩ : ∃ w1, w1 = w.alloc (.cells #[.string ⟨#[102, 117, 108, 108]⟩, .int .i64 0, .string ⟨#[109, 117, 108, 40, 108, 101, 103, 115, 44, 53, 48, 48, 41]⟩] 83) := ⟨_, rfl⟩
  obtain ⟨g, hg⟩ : ∃ g, g = w.heap.size := ⟨_, rfl⟩
  have hR := HD0.out.lt
  rw [← hw1] at HF
  rw [← hw1, ← hg]
  have HG := Lib.hid hg
  clear HD0 hw1 hg
  have HD := Lib.hid HF.out.ds
  obtain ⟨xs, hxs⟩ : ∃ xs, xs = ([.string ⟨#[102, 117, 108, 108]⟩, .int .i64 0, .string ⟨#[109, 117, 108, 40, 108, 101, 103, 115, 44, 53, 48, 48, 41]⟩] : List Value) := ⟨_, rfl⟩
  rw [← hxs, ← HG.out] at HF
  clear hxs
  go_upto_if 8 with ((with_reducible refine (pick_ds (by repeat (first | exact HD.out | apply DS.alloc | apply DS.drewN | apply DS.drew)) (by omega) (by omega) (by omega)).mono ?_); rintro e wx ⟨x, rfl, x0, x1, hds, hon⟩; have Hx := Lib.hid hon; clear HD; have HD := Lib.hid hds; clear hds hon)
  have HF1 := Lib.hid (HF.out.go HD.out (More.refl _ _) Hx.out)
  clear HF Hx HD
  have HF := HF1
  clear HF1
  go_cut [3] from 6 to 18 (fun v wc => ∃ (g n c : Nat) (xs : List Value), v = .slice (some ⟨g, 0, none⟩) n c ∧ 1 ≤ n ∧ n ≤ 2 ∧ FS w S R (K + 3) a len cap g n c xs wc)
  case first =>
    by_cases hx : 0 < x
    · have HD := Lib.hid HF.out.ds
      go_wp2_with fail
      ((with_reducible refine (pick_ds (by repeat (first | exact HD.out | apply DS.alloc | apply DS.drewN | apply DS.drew)) (by omega) (by omega) (by omega)).mono ?_); rintro e wy ⟨y, rfl, y0, y1, hds, hon⟩; have Hy := Lib.hid hon; clear HD; have HD := Lib.hid hds; clear hds hon)
      have HF1 := Lib.hid (HF.out.go HD.out (More.refl _ _) Hy.out)
      have hsy := HF1.out.ds.on.size
      clear HF Hy
      go_wp2_with fail
      refine (of_ds (q := 30) (by repeat (first | exact HD.out | apply DS.alloc | apply DS.drewN | apply DS.drew)) (by omega) wy.heap.size 4 4 (by omega) (by omega) (by omega) (by omega) (by simp) (fresh_strs _ rfl (by
        intro v hv
        simp at hv
        rcases hv with rfl | rfl | rfl | rfl
        all_goals exact ⟨_, rfl, by decide⟩))).mono ?_
      rintro e wz ⟨s, rfl, hs, hds, hon⟩
      have HF := Lib.hid ((HF1.out.alloc _).go hds (More.refl _ _) hon)
      have hsz := hds.on.size
      clear HF1 HD hds hon hs hsy
      go_wp2_with (at_builtin; go_loud (refine wpList_append_lies _ rfl (.tmp 9) (.tmp 17) 69 rfl w.heap.size 83 i0 (.agg #[.string ⟨#[]⟩, .int .i64 0, .string ⟨#[]⟩]) 3 40 Tryz.underlying69 hi0 hz0 hz1 hz2 rfl (by decide) (.slice (some ⟨g, 0, none⟩) 1 1) 1 xs rfl (HF.out.row.kept (World.grownBy_alloc _ _ none) (Or.inr (by simp [Value.ownBlock]))) ⟨wz.heap.size, 0, none⟩ 1 1 [.string ⟨#[108, 111, 119]⟩, .int .i64 (1 + y), .string s] rfl rfl (news_3 _ _ _ _ _) (by simp [Value.oneCell']) (by decide) (by unfold maxLen; omega) (by omega) (by simp; omega) (wz.heap.size + 1) (by simp) ?_; intro g' c' w4 hown hgrow hat hlt4; have HW4 := Lib.hid (HF.out.push (by decide) hown hgrow hat); clear hown hgrow hat))
      go_meet
      exact ⟨g', 2, c', _, rfl, by omega, by omega, HW4.out.mono (by omega)⟩
    · go_wp2_with fail
      go_meet
      exact ⟨g, 1, 1, xs, rfl, by omega, by omega, HF.out.mono (by omega)⟩
  case rest =>
    obtain ⟨g, n, c, xs, rfl, hn1, hn2, hfs⟩ := hcut
    clear HF
    obtain ⟨wo, rfl⟩ : ∃ wo, wo = wc := ⟨_, rfl⟩
    have HF := Lib.hid hfs
    have HD := Lib.hid hfs.ds
    clear hfs
    go_wp2_with fail
    ((with_reducible refine (pick_ds (by repeat (first | exact HD.out | apply DS.alloc | apply DS.drewN | apply DS.drew)) (by omega) (by omega) (by omega)).mono ?_); rintro e wz ⟨z, rfl, z0, z1, hds, hon⟩; have Hz := Lib.hid hon; clear HD; have HD := Lib.hid hds; clear hds hon)
    have HF1 := Lib.hid (HF.out.go HD.out (More.refl _ _) Hz.out)
    clear HF Hz
    have HF := HF1
    clear HF1
    by_cases hz : z = 0
    · go_wp2_with fail
      ((with_reducible refine (pick_ds (by repeat (first | exact HD.out | apply DS.alloc | apply DS.drewN | apply DS.drew)) (by omega) (by omega) (by omega)).mono ?_); rintro e wy ⟨y, rfl, y0, y1, hds, hon⟩; have Hy := Lib.hid hon; clear HD; have HD := Lib.hid hds; clear hds hon)
      have HF1 := Lib.hid (HF.out.go HD.out (More.refl _ _) Hy.out)
      have hsy := HF1.out.ds.on.size
      clear HF Hy
      go_wp2_with fail
      have HFA := Lib.hid (HF1.out.alloc (.cells #[.string ⟨#[108, 101, 103, 115]⟩, .string ⟨#[115, 101, 97, 116, 115]⟩, .string ⟨#[116, 105, 109, 101]⟩] 9))
      refine (l14Small_any wy.heap.size 3 3 (by omega) HFA.out.ds.here (fresh_strs _ rfl (by
        intro v hv
        simp at hv
        rcases hv with rfl | rfl | rfl
        all_goals exact ⟨_, rfl, by decide⟩)) (by omega) (by omega) (by omega) (by omega) (by simp)).mono ?_
      rintro e wz ⟨S2, op, num, u, kids, marks, rfl, hc, hm2, hd2⟩
      have HF := Lib.hid (HFA.out.go (HFA.out.ds.call hd2 hm2) hm2 hd2.on)
      have HM := Lib.hid ((More.refl w.heap.size S).trans hm2 (by simp; omega))
      have HC := Lib.hid hc
      have hsz := HF.out.ds.on.size
      clear HFA HF1 HD hd2 hm2 hc hsy
      go_wp2_with fail
      refine (RuleWrite_any wz (by omega) HC.out HF.out.ds.rows).mono ?_
      rintro e wv ⟨⟨s, rfl, hs⟩, hb⟩
      have HF2 := Lib.hid (HF.out.go (HF.out.ds.below hb) (More.refl _ _) ⟨hb.os, hb.tape, hb.output, hb.size, fun k hk _ => hb.block k hk⟩)
      have hsv := HF2.out.ds.on.size
      clear HF hb hs HC
      go_wp2_with (at_builtin; go_loud (refine wpList_append_lies _ rfl (.tmp 22) (.tmp 30) 69 rfl w.heap.size 83 i0 (.agg #[.string ⟨#[]⟩, .int .i64 0, .string ⟨#[]⟩]) 3 40 Tryz.underlying69 hi0 hz0 hz1 hz2 rfl (by decide) (.slice (some ⟨g, 0, none⟩) n c) n xs rfl (HF2.out.row.kept (World.grownBy_alloc _ _ none) (Or.inr (by simp [Value.ownBlock]))) ⟨wv.heap.size, 0, none⟩ 1 1 [.string ⟨#[111, 100, 100]⟩, .int .i64 y, .string s] rfl rfl (news_3 _ _ _ _ _) (by simp [Value.oneCell']) (by decide) (by unfold maxLen; omega) (by omega) (by simp; omega) (wv.heap.size + 1) (by simp) ?_; intro g' c' w4 hown hgrow hat hlt4; have HW4 := Lib.hid (HF2.out.push (by decide) hown hgrow hat); clear hown hgrow hat))
      go_ret
      exact ⟨S2, g', n + 1, c', _, rfl, by omega, by omega, HM.out, HW4.out.mono (by omega)⟩
    · go_wp2_with fail
      go_ret
      exact ⟨S, g, n, c, xs, rfl, hn1, by omega, More.refl _ _, HF.out.mono (by omega)⟩

end My
end Go.Proofs.YtjmlekhgnbbjoaaGreatDoor
