/- TripRead, as the reference has it. -/
import Derived.Test.YtjmlekhgnbbjoaaGreatDoorTripR
import Derived.Test.YtjmlekhgnbbjoaaGreatDoorRegL
namespace Go.Proofs.YtjmlekhgnbbjoaaGreatDoor
open Go.RowKit Go.Deep
set_option linter.unusedVariables false
namespace My

theorem lt_heap {w : World} {g : Nat} {o : Obj} (h : w.heap[g]? = some o) : g < w.heap.size := by
  by_cases hx : g < w.heap.size
  · exact hx
  · rw [Array.getElem?_eq_none (by omega)] at h; cases h
/-- What the slots hold while the trip is put together. -/
def CutRes (B : Nat) (T : List UInt8) (a : Value) (n : Nat) (w : World) : Prop :=
  ∃ (g c : Nat) (F : Nat → ByteArray), a = .slice (some ⟨g, 0, none⟩) n c ∧ B ≤ g ∧ OwnT w g n F ∧ n ≤ c ∧ cutL 45 T = (List.range n).map (fun i => (F i).data.toList)
theorem CutRes.below {B n : Nat} {T : List UInt8} {a : Value} {w w' : World} (h : CutRes B T a n w) (hb : Below w.heap.size w w') : CutRes B T a n w' := by
  obtain ⟨g, c, F, e, h1, h2, h3, h4⟩ := h
  exact ⟨g, c, F, e, h1, h2.below hb (Nat.le_refl _), h3, h4⟩
def trG (B g cap : Nat) (s0 s1 s2 : ByteArray) (d : Nat) (v : Value) (w : World) : Prop :=
  match d with
  | 12 | 16 | 19 => v = .slice (some ⟨g, 0, none⟩) 3 cap
  | 13 => v = .pointer (some ⟨g, 0, none⟩)
  | 17 => v = .pointer (some ⟨g, 1, none⟩)
  | 20 => v = .pointer (some ⟨g, 2, none⟩)
  | 14 => v = .string s0
  | 18 => v = .string s1
  | 21 => v = .string s2
  | 15 => ∃ n, CutRes B s0.data.toList v n w
  | 22 => ∃ x : Int, v = .int .i64 x ∧ NumV s2.data.toList x
  | 23 => ∃ (a : Value) (n : Nat) (x : Int), v = .agg #[a, .string s1, .int .i64 x] ∧ CutRes B s0.data.toList a n w ∧ NumV s2.data.toList x
  | 5 => ∃ t, v = .pointer (some ⟨t, 0, none⟩) ∧ B ≤ t ∧ w.heap[t]? = some (.cells #[.slice none 0 0, .string ⟨#[]⟩, .int .i64 0] 26 (0, 0))
  | _ => True
theorem trG_stable {B g cap : Nat} {s0 s1 s2 : ByteArray} {d : Nat} {v : Value} {w w' : World} (hb : Below w.heap.size w w') (h : trG B g cap s0 s1 s2 d v w) : trG B g cap s0 s1 s2 d v w' := by
  unfold trG at h ⊢
  split at h
  all_goals (try exact h)
  · obtain ⟨n, h⟩ := h
    exact ⟨n, h.below hb⟩
  · obtain ⟨a, n, x, e, h1, h2⟩ := h
    exact ⟨a, n, x, e, h1.below hb, h2⟩
  · obtain ⟨t, e, h1, h2⟩ := h
    exact ⟨t, e, h1, (hb.block t (lt_heap h2)).trans h2⟩

set_option maxRecDepth 100000 in
set_option maxHeartbeats 4000000 in
theorem sTripRead_any (s : ByteArray) (w : World) (hs : s.size ≤ 1048576) : Calls Tryz.prog 6 #[.string s] w (TrPost False s.data.toList w) := by
  have hlen : s.data.toList.length = s.size := by simp
  have hb0 := (Below.refl w.heap.size w).alloc (Nat.le_refl _) (.cells #[.slice none 0 0, .string ⟨#[]⟩, .int .i64 0] 26)
  have HB0 := Lib.hid hb0
  obtain ⟨c0, c1, c2⟩ := boxed (w := w) (u := .slice none 0 0) (v := .string ⟨#[]⟩) (x := .int .i64 0) (t := 26)
  have hbl := blk_alloc_new w (.cells #[.slice none 0 0, .string ⟨#[]⟩, .int .i64 0] 26)
  clear hb0
  go_enter Tryz.func6, Tryz.ntmps6
  go_wp2_with fail
  refine (l3Cut_any s 47 _ hs).mono ?_
  rintro e w1 ⟨g, n, cap, F, rfl, hg, ho, hcap, hcut, hb⟩
  have hsz0 : w.heap.size < (w.alloc (.cells #[.slice none 0 0, .string ⟨#[]⟩, .int .i64 0] 26)).heap.size := by simp
  have hR := (hb.block w.heap.size hsz0).trans hbl
  have r0 := cellB hR 0
  have r1 := cellB hR 1
  have r2 := cellB hR 2
  have f0 := frozenB hR 0
  have f1 := frozenB hR 1
  have f2 := frozenB hR 2
  simp at r0 r1 r2
  have HB1 := Lib.hid (bT HB0.out hb)
  have HO1 := Lib.hid ho
  have HCUT := Lib.hid hcut
  have hcut0 := hcut
  have hRlt : w.heap.size < w1.heap.size := Nat.lt_of_lt_of_le hsz0 hb.size
  have HN3 : Hid (n ≠ 3 → ∀ G m f t, ¬ IsT s.data.toList G m f t) := by
    intro h3 G m f t hi
    have h1 := (trip_told hi).1
    rw [h1] at hcut
    have := congrArg List.length hcut
    simp at this
    omega
  clear c0 c1 c2 hbl ho hcut hb hR
  obtain ⟨R, hRe⟩ : ∃ R, R = w.heap.size := ⟨_, rfl⟩
  have HRE := Lib.hid hRe
  rw [← hRe] at r0 r1 r2 f0 f1 f2 hRlt ⊢
  clear hRe
  by_cases h3 : n = 3
  · subst h3
    have hbd := cutL_bd 47 s.data.toList
    have HCU := Lib.hid hcut0
    have hp : ∀ i, i < 3 → (F i).size + 3 ≤ s.size + 1 := by
      intro i hi
      have := hbd ((F i).data.toList) (by rw [hcut0]; exact List.mem_map.2 ⟨i, by simp [hi], rfl⟩)
      rw [hcut0] at this
      simp at this
      omega
    have p0 := hp 0 (by omega)
    have p1 := hp 1 (by omega)
    have p2 := hp 2 (by omega)
    have q0 := HO1.out.cell (i := 0) (by omega)
    have q1 := HO1.out.cell (i := 1) (by omega)
    have q2 := HO1.out.cell (i := 2) (by omega)
    have hglt := HO1.out.lt
    obtain ⟨s0, hs0⟩ : ∃ x, x = F 0 := ⟨_, rfl⟩
    obtain ⟨s1, hs1⟩ : ∃ x, x = F 1 := ⟨_, rfl⟩
    obtain ⟨s2, hs2⟩ : ∃ x, x = F 2 := ⟨_, rfl⟩
    have HT3 : Hid (cutL 47 s.data.toList = [s0.data.toList, s1.data.toList, s2.data.toList]) := by
      show _ = _
      rw [hcut0, hs0, hs1, hs2]
      rfl
    rw [← hs0] at q0 p0
    rw [← hs1] at q1 p1
    rw [← hs2] at q2 p2
    clear hs0 hs1 hs2 hp hbd HN3 HCU hcut0 HCUT
    have q0' := q0
    have q1' := q1
    have q2' := q2
    have HQ : Hid (∀ wx, Below w1.heap.size w1 wx → wx.cell? ⟨g, 0, none⟩ = some (.string s0) ∧ wx.cell? ⟨g, 1, none⟩ = some (.string s1) ∧ wx.cell? ⟨g, 2, none⟩ = some (.string s2) ∧ g < wx.heap.size) := fun wx hbx => ⟨(hbx.cell (p := ⟨g, 0, none⟩) hglt).trans q0', (hbx.cell (p := ⟨g, 1, none⟩) hglt).trans q1', (hbx.cell (p := ⟨g, 2, none⟩) hglt).trans q2', Nat.lt_of_lt_of_le hglt hbx.size⟩
    have HRR : Hid (∀ wx, Below w1.heap.size w1 wx → wx.heap[R]? = w1.heap[R]?) := fun wx hbx => hbx.block R hRlt
    clear q0 q1 q2 q0' q1' q2' HO1
    go_wp2_with fail
    refine wp_region_endl (by simp) (by kernel_rfl) [12, 13, 14, 15, 16, 17, 18, 19, 20, 21, 22, 23, 5]
      (trG w1.heap.size g cap s0 s1 s2) (fun n w' => Below w1.heap.size w1 w') (fun w w' => Below w.heap.size w w') (fun w => Below.refl _ _) (fun _ _ _ h k => bT h k) ?stable (by kernel_rfl) (by kernel_rfl) ((Below.refl _ _).drew) ?step ?fin
    case stable => exact fun d v w w' hS hG => trG_stable hS hG
    case step =>
      refine ⟨?_, ?_, ?_, ?_, ?_, ?_, ?_, ?_, ?_, ?_, ?_, ?_, ?_, trivial⟩
      all_goals intro n f wx hn hI hS haf
      all_goals have HI := Lib.hid hI
      all_goals clear hI hS
      · simp [frameOf, goFrame]; go_simp; exact ⟨HI.out, Below.refl _ _, rfl⟩
      · obtain ⟨h, _⟩ := haf; have h : f 12 = .slice (some ⟨g, 0, none⟩) 3 cap := h; simp [frameOf, goFrame, h]; go_simp; exact ⟨HI.out, Below.refl _ _, rfl⟩
      · obtain ⟨h, _⟩ := haf; have h : f 13 = .pointer (some ⟨g, 0, none⟩) := h; obtain ⟨z0, z1, z2, z3⟩ := HQ.out wx HI.out; simp [frameOf, goFrame, h]; go_simp; exact ⟨HI.out, Below.refl _ _, rfl⟩
      · obtain ⟨h, _⟩ := haf; have h : f 14 = .string s0 := h; simp [frameOf, goFrame, h]; go_simp; refine (l3Cut_any s0 45 wx (by omega)).mono ?_; rintro e wy ⟨g7, n7, c7, F7, rfl, hg7, ho7, hc7, hcut7, hb7⟩; exact ⟨bT HI.out hb7, hb7, n7, g7, c7, F7, rfl, Nat.le_trans HI.out.size hg7, ho7, hc7, hcut7⟩
      · simp [frameOf, goFrame]; go_simp; exact ⟨HI.out, Below.refl _ _, rfl⟩
      · obtain ⟨h, _⟩ := haf; have h : f 16 = .slice (some ⟨g, 0, none⟩) 3 cap := h; simp [frameOf, goFrame, h]; go_simp; exact ⟨HI.out, Below.refl _ _, rfl⟩
      · obtain ⟨h, _⟩ := haf; have h : f 17 = .pointer (some ⟨g, 1, none⟩) := h; obtain ⟨z0, z1, z2, z3⟩ := HQ.out wx HI.out; simp [frameOf, goFrame, h]; go_simp; exact ⟨HI.out, Below.refl _ _, rfl⟩
      · simp [frameOf, goFrame]; go_simp; exact ⟨HI.out, Below.refl _ _, rfl⟩
      · obtain ⟨h, _⟩ := haf; have h : f 19 = .slice (some ⟨g, 0, none⟩) 3 cap := h; simp [frameOf, goFrame, h]; go_simp; exact ⟨HI.out, Below.refl _ _, rfl⟩
      · obtain ⟨h, _⟩ := haf; have h : f 20 = .pointer (some ⟨g, 2, none⟩) := h; obtain ⟨z0, z1, z2, z3⟩ := HQ.out wx HI.out; simp [frameOf, goFrame, h]; go_simp; exact ⟨HI.out, Below.refl _ _, rfl⟩
      · obtain ⟨h, _⟩ := haf; have h : f 21 = .string s2 := h; simp [frameOf, goFrame, h]; go_simp; refine (l2Num_any s2 wx (by omega)).mono ?_; rintro e wy ⟨⟨x, rfl, hx⟩, rfl⟩; exact ⟨HI.out, Below.refl _ _, x, rfl, hx⟩
      · obtain ⟨h, h', h'', _⟩ := haf; obtain ⟨n7, h7⟩ : ∃ n, CutRes w1.heap.size s0.data.toList (f 15) n wx := h; have h' : f 18 = .string s1 := h'; obtain ⟨x, hx, hxn⟩ : ∃ x : Int, f 22 = .int .i64 x ∧ NumV s2.data.toList x := h''; obtain ⟨g7, c7, F7, e7, r7⟩ := h7; simp [frameOf, goFrame, h', hx, e7]; go_simp; exact ⟨HI.out, Below.refl _ _, _, n7, x, rfl, ⟨g7, c7, F7, rfl, r7⟩, hxn⟩
      · simp [frameOf, goFrame]; go_simp; exact ⟨HI.out.alloc HI.out.size _, (Below.refl _ _).alloc (Nat.le_refl _) _, wx.heap.size, rfl, HI.out.size, blk_alloc_new _ _⟩
    case fin =>
      intro n f wx hn hI hS hG
      obtain ⟨a7, n6, v, e23, ⟨g7, c7, F6, rfl, hg7, ho7, hc7, hcut7⟩, hnum⟩ : ∃ (a : Value) (n : Nat) (x : Int), f 23 = .agg #[a, .string s1, .int .i64 x] ∧ CutRes w1.heap.size s0.data.toList a n wx ∧ NumV s2.data.toList x := hG 11 _ 23 (by simp) rfl rfl
      obtain ⟨t, e5, htt, hth⟩ : ∃ t, f 5 = .pointer (some ⟨t, 0, none⟩) ∧ w1.heap.size ≤ t ∧ wx.heap[t]? = some (.cells #[.slice none 0 0, .string ⟨#[]⟩, .int .i64 0] 26 (0, 0)) := hG 12 _ 5 (by simp) rfl rfl
      have HI := Lib.hid hI
      have t0 := cellB hth 0
      have t1 := cellB hth 1
      have t2 := cellB hth 2
      simp at t0 t1 t2
      have u0 := frozenB hth 0
      have u1 := frozenB hth 1
      have u2 := frozenB hth 2
      clear hG hS hn
      simp only [frameOf, goFrame]
      simp [e23, e5]
      go_simp
      have hcn := cut_n hcut7 (by simp; omega)
      have htg : t ≠ g7 := by
        rintro rfl
        have h0 := ho7.cell (i := 0) (by have := hcn.1; omega)
        rw [h0] at t0
        cases t0
      have HD := Lib.hid (trip_set (w := wx) (x := .slice (some ⟨g7, 0, none⟩) n6 c7) (y := .string s1) (z := .int .i64 v) hth)
      have HBX := Lib.hid (bT HB1.out (trip_set1 (x := .slice (some ⟨g7, 0, none⟩) n6 c7) (y := .string s1) (z := .int .i64 v) hth htt HI.out))
      have HRX := Lib.hid ((trip_set1 (x := .slice (some ⟨g7, 0, none⟩) n6 c7) (y := .string s1) (z := .int .i64 v) hth htt HI.out).block R hRlt)
      have HO7 := Lib.hid (trip_set2 (x := .slice (some ⟨g7, 0, none⟩) n6 c7) (y := .string s1) (z := .int .i64 v) htg ho7)
      obtain ⟨wz, hwz⟩ : ∃ wz, wz = (((wx.setCell ⟨t, 0, none⟩ (.slice (some ⟨g7, 0, none⟩) n6 c7)).setCell ⟨t, 1, none⟩ (.string s1)).setCell ⟨t, 2, none⟩ (.int .i64 v)) := ⟨_, rfl⟩
      rw [← hwz] at HD HBX HRX HO7
      rw [← hwz]
      clear hwz
      obtain ⟨n61, n6b, hF6⟩ := hcn
      have hF7 : ∀ i, i < n6 → (F6 i).size ≤ 1048576 := fun i hi => by have := hF6 i hi; simp at this; omega
      have HW7 := Lib.hid (sTripWrite_any (some ⟨g7, 0, none⟩) n6 c7 s1 v F6 wz HO7.out.inS n6b hc7 hF7 (by omega))
      have HTE : Hid (∀ G m f t, IsT s.data.toList G m f t → IsT s.data.toList F6 n6 s1 v) := by
        intro G m f t hi
        obtain ⟨i1, i2, i3, i4, i5⟩ := trip_read HT3.out hcut7 hi
        have e1 := byte_eq i2
        subst e1
        have e2 : Lib.itoa t = Lib.decDigits t.toNat := by unfold Lib.itoa; rw [if_neg (by omega)]
        rw [i3, e2] at hnum
        have e3 : v = t := by
          rcases hnum with ⟨u, hu, e, rfl⟩ | ⟨_, hbad⟩
          · have := dec_inj e
            omega
          · exact absurd rfl (hbad t.toNat (by omega))
        rw [e3]
        exact i1
      have hR := HRX.out
      have y0 : wz.cell? ⟨R, 0, none⟩ = some (.slice none 0 0) := (World.cell?_of_block (w := w1) hR).trans r0
      have y1 : wz.cell? ⟨R, 1, none⟩ = some (.string ⟨#[]⟩) := (World.cell?_of_block (w := w1) hR).trans r1
      have y2 : wz.cell? ⟨R, 2, none⟩ = some (.int .i64 0) := (World.cell?_of_block (w := w1) hR).trans r2
      have z0 : wz.frozen? ⟨R, 0, none⟩ = false := (World.frozen?_of_block (w := w1) hR).trans f0
      have z1 : wz.frozen? ⟨R, 1, none⟩ = false := (World.frozen?_of_block (w := w1) hR).trans f1
      have z2 : wz.frozen? ⟨R, 2, none⟩ = false := (World.frozen?_of_block (w := w1) hR).trans f2
      have hRx : R < wz.heap.size := World.block_lt_of_cell? wz _ y0
      obtain ⟨d0, d1, d2⟩ := HD.out
      clear r0 r1 r2 f0 f1 f2 hR t0 t1 t2 u0 u1 u2 hth ho7 hcut7 hF6 hF7 HQ HRR HRX hnum e23 e5 HI
      go_wp2_with fail
      refine HW7.out.mono ?_
      rintro e w9 ⟨rfl, hb9⟩
      obtain ⟨k1, k2⟩ := bcell hb9
      have x0 := (k1 R 0 hRx).trans y0
      have x1 := (k1 R 1 hRx).trans y1
      have x2 := (k1 R 2 hRx).trans y2
      have u0 := (k2 R 0 hRx).trans z0
      have u1 := (k2 R 1 hRx).trans z1
      have u2 := (k2 R 2 hRx).trans z2
      have htx : t < wz.heap.size := World.block_lt_of_cell? wz _ d0
      have e0 := (k1 t 0 htx).trans d0
      have e1 := (k1 t 1 htx).trans d1
      have e2 := (k1 t 2 htx).trans d2
      have HB9 := Lib.hid (bT HBX.out hb9)
      have HO9 := Lib.hid (HO7.out.below hb9 (Nat.le_refl _))
      have hgR : g7 ≠ R := by omega
      have htR : t ≠ R := by omega
      clear y0 y1 y2 z0 z1 z2 k1 k2 hb9 d0 d1 d2 HW7
      by_cases hT : tripT F6 n6 s1 v = s.data.toList
      · have hst : txt (tripT F6 n6 s1 v) = s := by rw [hT, data_txt]
        have hTne : s.data.toList ≠ [] := by
          intro e
          have := HT3.out
          rw [e] at this
          simp [cutL] at this
        have HI := Lib.hid ((tripT_is hTne).1 hT)
        have n3 := (trip_parts HI.out.1).2.2.1.2
        rw [hst]
        clear hst hT hTne
        go_wp2_with fail
        refine bodyPost_ret (v := .tuple #[.agg #[.slice (some ⟨g7, 0, none⟩) n6 c7, .string s1, .int .i64 v], .bool true]) (by simp [results, Tryz.results6, go_sem, x0, x1, x2]) rfl ⟨some ⟨g7, 0, none⟩, n6, c7, s1, v, F6, true, rfl, ⟨hc7, Or.inr ⟨g7, rfl, ?_, ?_⟩⟩, n3, fun h => h.elim, ?_, Or.inl ⟨rfl, HI.out⟩⟩
        · have := HB1.out.size
          omega
        · exact HO9.out.of_block (by simp [World.setCell, Array.getElem?_modify, Ne.symm hgR])
        · have hR := HRE.out
          exact ((HB9.out.setCell (by simp; omega) _).setCell (by simp; omega) _).setCell (by simp; omega) _
      · have HNO : Hid (∀ G m f t, ¬ IsT s.data.toList G m f t) := by
          intro G m f t hi
          apply hT
          have := HTE.out G m f t hi
          unfold tripT
          rw [if_pos this.1]
          exact this.2
        have hne : ((txt (tripT F6 n6 s1 v)).toList == s.toList) = false := by
          rw [Lib.bytes_beq_false_iff]
          intro e
          apply hT
          rw [← e, txt_data]
        clear hT
        obtain ⟨X, hX⟩ : ∃ X, X = txt (tripT F6 n6 s1 v) := ⟨_, rfl⟩
        rw [← hX] at hne ⊢
        clear hX
        go_wp2_with fail
        refine bodyPost_ret (v := .tuple #[.agg #[.slice none 0 0, .string ⟨#[]⟩, .int .i64 0], .bool false]) (by simp [results, Tryz.results6, go_sem, x0, x1, x2]) rfl ⟨none, 0, 0, ⟨#[]⟩, 0, F6, false, rfl, ⟨Nat.le_refl _, Or.inl rfl⟩, by omega, fun _ => rfl, ?_, Or.inr ⟨rfl, rfl, rfl, rfl, HNO.out⟩⟩
        have hR := HRE.out
        first
          | exact HB9.out
          | exact ((HB9.out.setCell (by simp; omega) _).setCell (by simp; omega) _).setCell (by simp; omega) _
  · have HNO := Lib.hid (HN3.out h3)
    have x3 : ((n : Int) == 3) = false := by
      have : (n : Int) ≠ 3 := by omega
      simp [this]
    clear HN3 h3
    go_wp2_with fail
    refine bodyPost_ret (v := .tuple #[.agg #[.slice none 0 0, .string ⟨#[]⟩, .int .i64 0], .bool false]) (by simp [results, Tryz.results6, go_sem, r0, r1, r2]) rfl ⟨none, 0, 0, ⟨#[]⟩, 0, F, false, rfl, ⟨Nat.le_refl _, Or.inl rfl⟩, by omega, fun _ => rfl, ?_, Or.inr ⟨rfl, rfl, rfl, rfl, HNO.out⟩⟩
    have hR := HRE.out
    first
      | exact HB1.out
      | exact ((HB1.out.setCell (by simp; omega) _).setCell (by simp; omega) _).setCell (by simp; omega) _

end My
end Go.Proofs.YtjmlekhgnbbjoaaGreatDoor
