/- TripRead, as the program has it. -/
import Derived.Test.YtjmlekhgnbbjoaaGreatDoorTxtA
namespace Go.Proofs.YtjmlekhgnbbjoaaGreatDoor
open Go.RowKit Go.Deep
set_option linter.unusedVariables false
namespace My

theorem split_any (s : ByteArray) (c : UInt8) (w : World) (hs : s.size ≤ 1048576) (h : w.ShapedOpen Tryz.prog) : Calls Tryz.prog 13 #[.string s, .string ⟨#[c]⟩] w (CutPost c s.data.toList w) := by
  have hone : (txt [c]).size = 1 := one_size c
  refine (Tryz.strings_Split_shaped s (txt [c]) w h (by omega) (by omega)).mono ?_
  rintro e w' ⟨rfl, rfl⟩
  have hl := Lib.splitB_all (txt [c]) (by omega) 0 _ s rfl
  have hc := splitB_cut c s.size s (Nat.le_refl _)
  obtain ⟨L, hL⟩ : ∃ L, L = Lib.splitB (txt [c]) 0 (Lib.countB s (txt [c])) s := ⟨_, rfl⟩
  rw [← hL] at hl hc ⊢
  rw [← hl]
  have hget : ∀ i, i < L.length → L[i]? = some (L.getD i ByteArray.empty) := by
    intro i hi
    rw [List.getD_eq_getElem?_getD, List.getElem?_eq_getElem hi]
    rfl
  refine ⟨w.heap.size, L.length, L.length, fun i => L.getD i ByteArray.empty, rfl, Nat.le_refl _, ⟨9, _, blk_alloc_new _ _, fun i hi => ?_⟩, Nat.le_refl _, ?_, (Below.refl _ _).alloc (Nat.le_refl _) _⟩
  · show ((L.map Value.string).toArray)[i]? = _
    rw [List.getElem?_toArray, List.getElem?_map, hget i hi]
    rfl
  · rw [← hc]
    apply List.ext_getElem?
    intro i
    rw [List.getElem?_map, List.getElem?_map]
    rcases Nat.lt_or_ge i L.length with hi | hi
    · rw [hget i hi, List.getElem?_range hi]
      rfl
    · rw [List.getElem?_eq_none (by omega), List.getElem?_eq_none (by simp; omega)]
      rfl

theorem clone_any (g n cap : Nat) (F : Nat → ByteArray) (w : World) (h : OwnT w g n F) (hn : n ≤ 1048576) (h1 : 1 ≤ n) :
    Calls Tryz.prog 15 #[.slice (some ⟨g, 0, none⟩) n cap] w fun e w' => ∃ g', e = .returned (.slice (some ⟨g', 0, none⟩) n n) ∧ w.heap.size ≤ g' ∧ OwnT w' g' n F ∧ Below w.heap.size w w' := by
  have HC : Hid (Calls Tryz.prog 30 #[.slice (some ⟨g, 0, none⟩) n cap] w fun e w' => ∃ g' c', e = .returned (.slice (some ⟨g', 0, none⟩) n c') ∧ w.heap.size ≤ g' ∧ OwnT w' g' n F ∧ n ≤ c' ∧ Below w.heap.size w w') := by
    refine (Tryz.slices_Clone_string g 0 n cap ((List.range n).map F) w (by simp) (by omega) (fun j hj => ?_)).mono ?_
    · have hj' : j < n := by simpa using hj
      rw [Nat.zero_add, List.getD_eq_getElem?_getD, List.getElem?_map, List.getElem?_range hj']
      exact h.cell hj'
    · rintro e w' ⟨v, rfl, ho, hv, hb⟩
      have ho' : w'.ownsRow w.heap.size 9 1 v n (strsOf F n) := by
        have e1 : (((List.range n).map F).take n).map Value.string = strsOf F n := by
          rw [List.take_of_length_le (by simp)]
          simp [strsOf]
        rw [← e1]
        exact ho
      rcases ho'.2 with ⟨h', hk⟩ | ⟨g', c', cur, hv', _⟩
      · omega
      · subst hv'
        have h2 := ownT_of_owns ho'
        exact ⟨g', c', rfl, h2.2.1, h2.1, h2.2.2, hb⟩
  clear h
  go_enter Tryz.func15, Tryz.ntmps15
  go_wp2_with fail
  refine HC.out.mono ?_
  rintro e w1 ⟨g', c', rfl, hg, ho, hc, hb⟩
  have HO := Lib.hid ho
  have HB := Lib.hid hb
  clear ho hb
  go_wp2_with fail
  refine (clip_any g' n c' w1 hc (by omega)).mono ?_
  rintro e w2 ⟨rfl, rfl⟩
  go_wp2_with fail
  go_ret
  exact ⟨g', rfl, hg, HO.out, HB.out⟩

theorem trip_set {w : World} {t : Nat} {x y z x' y' z' : Value} {T : TypeId} (h : w.heap[t]? = some (.cells #[x', y', z'] T (0, 0))) :
    (((w.setCell ⟨t, 0, none⟩ x).setCell ⟨t, 1, none⟩ y).setCell ⟨t, 2, none⟩ z).cell? ⟨t, 0, none⟩ = some x ∧ (((w.setCell ⟨t, 0, none⟩ x).setCell ⟨t, 1, none⟩ y).setCell ⟨t, 2, none⟩ z).cell? ⟨t, 1, none⟩ = some y ∧
    (((w.setCell ⟨t, 0, none⟩ x).setCell ⟨t, 1, none⟩ y).setCell ⟨t, 2, none⟩ z).cell? ⟨t, 2, none⟩ = some z := by
  refine ⟨?_, ?_, ?_⟩ <;> simp [World.cell?, World.setCell, Array.getElem?_modify, h]
theorem trip_set1 {w w0 : World} {t B : Nat} {x y z x' y' z' : Value} {T : TypeId} (h : w.heap[t]? = some (.cells #[x', y', z'] T (0, 0))) (ht : B ≤ t) (hb : Below B w0 w) :
    Below B w0 (((w.setCell ⟨t, 0, none⟩ x).setCell ⟨t, 1, none⟩ y).setCell ⟨t, 2, none⟩ z) :=
  ((hb.setCell ht _).setCell ht _).setCell ht _
theorem trip_set2 {w : World} {t g n : Nat} {F : Nat → ByteArray} {x y z : Value} (hg : t ≠ g) (h : OwnT w g n F) : OwnT (((w.setCell ⟨t, 0, none⟩ x).setCell ⟨t, 1, none⟩ y).setCell ⟨t, 2, none⟩ z) g n F :=
  h.of_block (by simp [World.setCell, Array.getElem?_modify, hg])
def TrPost (q : Prop) (T : List UInt8) (w : World) (e : Ending) (w' : World) : Prop :=
  ∃ (a : Option Addr) (n c : Nat) (f : ByteArray) (s : Int) (F : Nat → ByteArray) (b : Bool), e = .returned (.tuple #[.agg #[.slice a n c, .string f, .int .i64 s], .bool b]) ∧ OwnQ w.heap.size w' a n c F ∧ n ≤ 3 ∧ (q → c = n) ∧ Below w.heap.size w w' ∧
    ((b = true ∧ IsT T F n f s) ∨ (b = false ∧ n = 0 ∧ f = ⟨#[]⟩ ∧ s = 0 ∧ ∀ G m f s, ¬ IsT T G m f s))

set_option maxRecDepth 100000 in
set_option maxHeartbeats 4000000 in
theorem iTripRead_any (s : ByteArray) (w : World) (hs : s.size ≤ 1048576) (henv : EnvN w) : Calls Tryz.prog 5 #[.string s] w (TrPost True s.data.toList w) := by
  have HE := Lib.hid henv
  have hlen : s.data.toList.length = s.size := by simp
  have hb0 := (Below.refl w.heap.size w).alloc (Nat.le_refl _) (.cells #[.slice none 0 0, .string ⟨#[]⟩, .int .i64 0] 26)
  have HE0 := Lib.hid (henv.below hb0)
  have HB0 := Lib.hid hb0
  obtain ⟨c0, c1, c2⟩ := boxed (w := w) (u := .slice none 0 0) (v := .string ⟨#[]⟩) (x := .int .i64 0) (t := 26)
  have hbl := blk_alloc_new w (.cells #[.slice none 0 0, .string ⟨#[]⟩, .int .i64 0] 26)
  clear henv hb0
  go_enter Tryz.func5, Tryz.ntmps5
  go_wp2_with fail
  refine (split_any s 47 _ hs HE0.out.sh).mono ?_
  rintro e w1 ⟨g, n, cap, F, rfl, hg, ho, hcap, hcut, hb⟩
  have hsz0 : w.heap.size < (w.alloc (.cells #[.slice none 0 0, .string ⟨#[]⟩, .int .i64 0] 26)).heap.size := by simp
  have hR := (hb.block w.heap.size hsz0).trans hbl
  have r0 := cellB hR 0
  have r1 := cellB hR 1
  have r2 := cellB hR 2
  have f0 := frozenB hR 0
  have f1 := frozenB hR 1
  have f2 := frozenB hR 2
  simp at r0 r1 r2
  have HB1 := Lib.hid (bT HB0.out hb)
  have HO1 := Lib.hid ho
  have HCUT := Lib.hid hcut
  have hcut0 := hcut
  have hRlt : w.heap.size < w1.heap.size := Nat.lt_of_lt_of_le hsz0 hb.size
  have HN3 : Hid (n ≠ 3 → ∀ G m f t, ¬ IsT s.data.toList G m f t) := by
    intro h3 G m f t hi
    have h1 := (trip_told hi).1
    rw [h1] at hcut
    have := congrArg List.length hcut
    simp at this
    omega
  clear c0 c1 c2 hbl ho hcut hb hR
  obtain ⟨R, hRe⟩ : ∃ R, R = w.heap.size := ⟨_, rfl⟩
  have HRE := Lib.hid hRe
  rw [← hRe] at r0 r1 r2 f0 f1 f2 hRlt ⊢
  clear hRe
  by_cases h3 : n = 3
  · subst h3
    have hbd := cutL_bd 47 s.data.toList
    have HCU := Lib.hid hcut0
    have hp : ∀ i, i < 3 → (F i).size + 3 ≤ s.size + 1 := by
      intro i hi
      have := hbd ((F i).data.toList) (by rw [hcut0]; exact List.mem_map.2 ⟨i, by simp [hi], rfl⟩)
      rw [hcut0] at this
      simp at this
      omega
    have p0 := hp 0 (by omega)
    have p1 := hp 1 (by omega)
    have p2 := hp 2 (by omega)
    have q0 := HO1.out.cell (i := 0) (by omega)
    have q1 := HO1.out.cell (i := 1) (by omega)
    have q2 := HO1.out.cell (i := 2) (by omega)
    have hglt := HO1.out.lt
    obtain ⟨s0, hs0⟩ : ∃ x, x = F 0 := ⟨_, rfl⟩
    obtain ⟨s1, hs1⟩ : ∃ x, x = F 1 := ⟨_, rfl⟩
    obtain ⟨s2, hs2⟩ : ∃ x, x = F 2 := ⟨_, rfl⟩
    have HT3 : Hid (cutL 47 s.data.toList = [s0.data.toList, s1.data.toList, s2.data.toList]) := by
      show _ = _
      rw [hcut0, hs0, hs1, hs2]
      rfl
    rw [← hs0] at q0 p0
    rw [← hs1] at q1 p1
    rw [← hs2] at q2 p2
    clear hs0 hs1 hs2 hp hbd HN3 HCU hcut0 HCUT
    go_wp2_with fail
    refine (number_any s2 w1 (by omega) (HE.out.below HB1.out)).mono ?_
    rintro e w2 ⟨v, b, rfl, hn1, hn2, v0, v1, hb⟩
    obtain ⟨k1, k2⟩ := bcell hb
    have r0' := (k1 R 0 hRlt).trans r0
    have r1' := (k1 R 1 hRlt).trans r1
    have r2' := (k1 R 2 hRlt).trans r2
    have f0' := (k2 R 0 hRlt).trans f0
    have f1' := (k2 R 1 hRlt).trans f1
    have f2' := (k2 R 2 hRlt).trans f2
    have q0' := (k1 g 0 hglt).trans q0
    have q1' := (k1 g 1 hglt).trans q1
    have hRlt' : R < w2.heap.size := Nat.lt_of_lt_of_le hRlt hb.size
    have hglt' : g < w2.heap.size := Nat.lt_of_lt_of_le hglt hb.size
    have HB2 := Lib.hid (bT HB1.out hb)
    have HN1 := Lib.hid hn1
    have HN2 := Lib.hid hn2
    have HE2 := Lib.hid (HE.out.below HB2.out)
    have HSP : Hid (∀ wx, Below w2.heap.size w2 wx → Calls Tryz.prog 13 #[.string s0, .string ⟨#[45]⟩] wx (CutPost 45 s0.data.toList wx)) := fun wx hbx => split_any s0 45 wx (by omega) (HE2.out.below hbx).sh
    have HQ : Hid (∀ wx, Below w2.heap.size w2 wx → wx.cell? ⟨g, 1, none⟩ = some (.string s1) ∧ g < wx.heap.size) := fun wx hbx => ⟨(hbx.cell (p := ⟨g, 1, none⟩) hglt').trans q1', Nat.lt_of_lt_of_le hglt' hbx.size⟩
    clear r0 r1 r2 f0 f1 f2 q0 q1 q2 hRlt hglt hb hn1 hn2 k1 k2 HO1
    go_upto_region 5 with fail
    go_cut [7] from 21 to 31 (fun x wx => ∃ (t g7 n6 : Nat) (F6 : Nat → ByteArray), x = .pointer (some ⟨t, 0, none⟩) ∧ Below w2.heap.size w2 wx ∧ w2.heap.size ≤ t ∧ w2.heap.size ≤ g7 ∧ wx.cell? ⟨t, 0, none⟩ = some (.slice (some ⟨g7, 0, none⟩) n6 n6) ∧ wx.cell? ⟨t, 1, none⟩ = some (.string s1) ∧ wx.cell? ⟨t, 2, none⟩ = some (.int .i64 v) ∧ OwnT wx g7 n6 F6 ∧ cutL 45 s0.data.toList = (List.range n6).map (fun i => (F6 i).data.toList))
    case first =>
      go_region_with (first
        | (go_at_call 13; ((with_reducible refine (HSP.out _ (by first | exact (Below.refl w2.heap.size w2).drew | exact ((Below.refl w2.heap.size w2).alloc (Nat.le_refl _) _).drew | exact ((Below.refl w2.heap.size w2).drew).alloc (Nat.le_refl _) _)).mono ?_); rintro e w6 ⟨g6, n6, cap6, F6, rfl, hg6, ho6, hcap6, hcut6, hb6⟩; obtain ⟨k1, k2⟩ := bcell hb6; have HO6 := Lib.hid ho6; have HCU6 := Lib.hid hcut6; have HBW6 := Lib.hid (bT (by first | exact (Below.refl w2.heap.size w2).drew | exact ((Below.refl w2.heap.size w2).alloc (Nat.le_refl _) _).drew | exact ((Below.refl w2.heap.size w2).drew).alloc (Nat.le_refl _) _) hb6); have q16 := (HQ.out w6 HBW6.out).1; have g16 := (HQ.out w6 HBW6.out).2; have n6b : n6 ≤ 1048576 := (cut_n hcut6 (by simp; omega)).2.1; have n61 : 1 ≤ n6 := (cut_n hcut6 (by simp; omega)).1; (first | (have hT6 : w6.heap[w2.heap.size]? = some (.cells #[.slice none 0 0, .string ⟨#[]⟩, .int .i64 0] 26) := (hb6.block w2.heap.size (by simp)).trans (blk_alloc_new w2 _); have hs6 : w2.heap.size < w6.heap.size := Nat.lt_of_lt_of_le (by simp) hb6.size) | skip); clear ho6 hcut6 hb6))
        | (go_at_call 15; ((with_reducible refine (clone_any g6 n6 cap6 F6 _ (HO6.out.below (by first | exact Below.refl w6.heap.size w6 | exact (Below.refl w6.heap.size w6).drew | exact (Below.refl w6.heap.size w6).alloc (Nat.le_refl _) _ | exact ((Below.refl w6.heap.size w6).alloc (Nat.le_refl _) _).drew | exact ((Below.refl w6.heap.size w6).drew).alloc (Nat.le_refl _) _) (Nat.le_refl _)) n6b n61).mono ?_); rintro e w7 ⟨g7, rfl, hg7, ho7, hb7⟩; obtain ⟨k3, k4⟩ := bcell hb7; have HO7 := Lib.hid ho7; have HBW7 := Lib.hid (bT HBW6.out (bT (by first | exact Below.refl w6.heap.size w6 | exact (Below.refl w6.heap.size w6).drew | exact (Below.refl w6.heap.size w6).alloc (Nat.le_refl _) _ | exact ((Below.refl w6.heap.size w6).alloc (Nat.le_refl _) _).drew | exact ((Below.refl w6.heap.size w6).drew).alloc (Nat.le_refl _) _) hb7)); have q17 := (HQ.out w7 HBW7.out).1; have g17 := (HQ.out w7 HBW7.out).2; (first | (have hT7 : w7.heap[w2.heap.size]? = some (.cells #[.slice none 0 0, .string ⟨#[]⟩, .int .i64 0] 26) := (hb7.block w2.heap.size hs6).trans hT6; have t70 := cellB hT7 0; have t71 := cellB hT7 1; have t72 := cellB hT7 2; simp at t70 t71 t72; have u70 := frozenB hT7 0; have u71 := frozenB hT7 1; have u72 := frozenB hT7 2) | (have hT7 : w7.heap[w6.heap.size]? = some (.cells #[.slice none 0 0, .string ⟨#[]⟩, .int .i64 0] 26) := (hb7.block w6.heap.size (by simp)).trans (blk_alloc_new w6 _); have t70 := cellB hT7 0; have t71 := cellB hT7 1; have t72 := cellB hT7 2; simp at t70 t71 t72; have u70 := frozenB hT7 0; have u71 := frozenB hT7 1; have u72 := frozenB hT7 2) | skip); clear ho7 hb7)))
      all_goals
        go_wp2_with fail
        go_meet
        simp at hg6 hg7
        first
          | exact ⟨w7.heap.size, g7, n6, F6, rfl, HBW7.out.alloc HBW7.out.size _, HBW7.out.size, (by have := HBW6.out.size; omega), (boxed (w := w7)).1, (boxed (w := w7)).2.1, (boxed (w := w7)).2.2, HO7.out.below ((Below.refl _ _).alloc (Nat.le_refl _) _) (Nat.le_refl _), HCU6.out⟩
          | exact ⟨w6.heap.size, g7, n6, F6, rfl, trip_set1 hT7 HBW6.out.size HBW7.out, HBW6.out.size, (by have := HBW6.out.size; omega), (trip_set hT7).1, (trip_set hT7).2.1, (trip_set hT7).2.2, trip_set2 (by omega) HO7.out, HCU6.out⟩
          | exact ⟨w2.heap.size, g7, n6, F6, rfl, trip_set1 hT7 (Nat.le_refl _) HBW7.out, Nat.le_refl _, (by have := HBW6.out.size; omega), (trip_set hT7).1, (trip_set hT7).2.1, (trip_set hT7).2.2, trip_set2 (by omega) HO7.out, HCU6.out⟩
    case rest =>
      obtain ⟨t, g7, n6, F6, rfl, hbx, htt, hg7, d0, d1, d2, ho7, hcut7⟩ := hcut
      rename World => wx
      obtain ⟨n61, n6b, hF6⟩ := cut_n hcut7 (by simp; omega)
      have hF7 : ∀ i, i < n6 → (F6 i).size ≤ 1048576 := fun i hi => by have := hF6 i hi; simp at this; omega
      have HBX := Lib.hid (bT HB2.out hbx)
      have HO7 := Lib.hid ho7
      have HW7 := Lib.hid (iTripWrite_any (some ⟨g7, 0, none⟩) n6 n6 s1 v F6 wx ho7.inS n6b (Nat.le_refl _) (by omega) hF7 (by omega) (HE.out.below HBX.out).t)
      have HTE : Hid (∀ G m f t, IsT s.data.toList G m f t → b = true ∧ IsT s.data.toList F6 n6 s1 v) := by
        intro G m f t hi
        obtain ⟨i1, i2, i3, i4, i5⟩ := trip_read HT3.out hcut7 hi
        have e1 := byte_eq i2
        obtain ⟨e2, e3⟩ := HN2.out t (by omega) (by omega) i3
        subst e1
        subst e2
        exact ⟨e3, i1⟩
      obtain ⟨k1, k2⟩ : (∀ b o, b < w2.heap.size → wx.cell? ⟨b, o, none⟩ = w2.cell? ⟨b, o, none⟩) ∧ (∀ b o, b < w2.heap.size → wx.frozen? ⟨b, o, none⟩ = w2.frozen? ⟨b, o, none⟩) := bcell hbx
      have y0 := (k1 R 0 hRlt').trans r0'
      have y1 := (k1 R 1 hRlt').trans r1'
      have y2 := (k1 R 2 hRlt').trans r2'
      have z0 := (k2 R 0 hRlt').trans f0'
      have z1 := (k2 R 1 hRlt').trans f1'
      have z2 := (k2 R 2 hRlt').trans f2'
      have hRx : R < wx.heap.size := Nat.lt_of_lt_of_le hRlt' hbx.size
      clear r0' r1' r2' f0' f1' f2' q0' q1' k1 k2 hbx ho7 hcut7 hF6 hF7 HSP HQ
      cases b with
      | false =>
        have HNO : Hid (∀ G m f t, ¬ IsT s.data.toList G m f t) := fun G m f t hi => by cases (HTE.out G m f t hi).1
        go_wp2_with fail
        refine bodyPost_ret (v := .tuple #[.agg #[.slice none 0 0, .string ⟨#[]⟩, .int .i64 0], .bool false]) (by simp [results, Tryz.results5, go_sem, y0, y1, y2]) rfl ⟨none, 0, 0, ⟨#[]⟩, 0, F6, false, rfl, ⟨Nat.le_refl _, Or.inl rfl⟩, by omega, fun _ => rfl, ?_, Or.inr ⟨rfl, rfl, rfl, rfl, HNO.out⟩⟩
        have hR := HRE.out
        first
          | exact HBX.out
          | exact ((HBX.out.setCell (by simp; omega) _).setCell (by simp; omega) _).setCell (by simp; omega) _
      | true =>
        go_wp2_with fail
        refine HW7.out.mono ?_
        rintro e w9 ⟨rfl, hb9⟩
        obtain ⟨k1, k2⟩ := bcell hb9
        have x0 := (k1 R 0 hRx).trans y0
        have x1 := (k1 R 1 hRx).trans y1
        have x2 := (k1 R 2 hRx).trans y2
        have u0 := (k2 R 0 hRx).trans z0
        have u1 := (k2 R 1 hRx).trans z1
        have u2 := (k2 R 2 hRx).trans z2
        have htx : t < wx.heap.size := World.block_lt_of_cell? wx _ d0
        have e0 := (k1 t 0 htx).trans d0
        have e1 := (k1 t 1 htx).trans d1
        have e2 := (k1 t 2 htx).trans d2
        have HB9 := Lib.hid (bT HBX.out hb9)
        have HO9 := Lib.hid (HO7.out.below hb9 (Nat.le_refl _))
        have hgR : g7 ≠ R := by omega
        have htR : t ≠ R := by omega
        clear y0 y1 y2 z0 z1 z2 k1 k2 hb9 d0 d1 d2 HW7
        by_cases hT : tripT F6 n6 s1 v = s.data.toList
        · have hst : txt (tripT F6 n6 s1 v) = s := by rw [hT, data_txt]
          have hTne : s.data.toList ≠ [] := by
            intro e
            have := HT3.out
            rw [e] at this
            simp [cutL] at this
          have HI := Lib.hid ((tripT_is hTne).1 hT)
          have n3 := (trip_parts HI.out.1).2.2.1.2
          rw [hst]
          clear hst hT hTne
          go_wp2_with fail
          refine bodyPost_ret (v := .tuple #[.agg #[.slice (some ⟨g7, 0, none⟩) n6 n6, .string s1, .int .i64 v], .bool true]) (by simp [results, Tryz.results5, go_sem, x0, x1, x2]) rfl ⟨some ⟨g7, 0, none⟩, n6, n6, s1, v, F6, true, rfl, ⟨Nat.le_refl _, Or.inr ⟨g7, rfl, ?_, ?_⟩⟩, n3, fun _ => rfl, ?_, Or.inl ⟨rfl, HI.out⟩⟩
          · have := HB2.out.size
            omega
          · exact HO9.out.of_block (by simp [World.setCell, Array.getElem?_modify, Ne.symm hgR])
          · have hR := HRE.out
            exact ((HB9.out.setCell (by simp; omega) _).setCell (by simp; omega) _).setCell (by simp; omega) _
        · have HNO : Hid (∀ G m f t, ¬ IsT s.data.toList G m f t) := by
            intro G m f t hi
            apply hT
            have := (HTE.out G m f t hi).2
            unfold tripT
            rw [if_pos this.1]
            exact this.2
          have hne : ((txt (tripT F6 n6 s1 v)).toList == s.toList) = false := by
            rw [Lib.bytes_beq_false_iff]
            intro e
            apply hT
            rw [← e, txt_data]
          clear hT
          obtain ⟨X, hX⟩ : ∃ X, X = txt (tripT F6 n6 s1 v) := ⟨_, rfl⟩
          rw [← hX] at hne ⊢
          clear hX
          go_wp2_with fail
          refine bodyPost_ret (v := .tuple #[.agg #[.slice none 0 0, .string ⟨#[]⟩, .int .i64 0], .bool false]) (by simp [results, Tryz.results5, go_sem, x0, x1, x2]) rfl ⟨none, 0, 0, ⟨#[]⟩, 0, F6, false, rfl, ⟨Nat.le_refl _, Or.inl rfl⟩, by omega, fun _ => rfl, ?_, Or.inr ⟨rfl, rfl, rfl, rfl, HNO.out⟩⟩
          have hR := HRE.out
          first
            | exact HB9.out
            | exact ((HB9.out.setCell (by simp; omega) _).setCell (by simp; omega) _).setCell (by simp; omega) _
  · have HNO := Lib.hid (HN3.out h3)
    have x3 : ((n : Int) == 3) = false := by
      have : (n : Int) ≠ 3 := by omega
      simp [this]
    clear HN3 h3
    go_wp2_with fail
    refine bodyPost_ret (v := .tuple #[.agg #[.slice none 0 0, .string ⟨#[]⟩, .int .i64 0], .bool false]) (by simp [results, Tryz.results5, go_sem, r0, r1, r2]) rfl ⟨none, 0, 0, ⟨#[]⟩, 0, F, false, rfl, ⟨Nat.le_refl _, Or.inl rfl⟩, by omega, fun _ => rfl, ?_, Or.inr ⟨rfl, rfl, rfl, rfl, HNO.out⟩⟩
    have hR := HRE.out
    first
      | exact HB1.out
      | exact ((HB1.out.setCell (by simp; omega) _).setCell (by simp; omega) _).setCell (by simp; omega) _

end My
end Go.Proofs.YtjmlekhgnbbjoaaGreatDoor
