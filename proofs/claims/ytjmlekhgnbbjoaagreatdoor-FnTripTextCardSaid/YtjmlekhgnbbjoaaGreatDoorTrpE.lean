/- FnTripText: the walk; seven listed variables. -/
import Derived.Test.YtjmlekhgnbbjoaaGreatDoorTrpD
import Derived.Test.YtjmlekhgnbbjoaaGreatDoorTripY
import Derived.Test.YtjmlekhgnbbjoaaGreatDoorTxtA
namespace Go.Proofs.YtjmlekhgnbbjoaaGreatDoor
open Go.RowKit Go.Deep
set_option linter.unusedVariables false
namespace My

abbrev Env7 (W : World) : Prop := EnvN W

theorem env_7 {W : World} (h : laidMetH Tryz.prog Rows.fnTripTextRow.laid W) (hs : W.ShapedOpen Tryz.prog) : Env7 W := by
  rw [MakeChecks.laidMetH_plain _ _ _ (by kernel_rfl)] at h
  have h1 := laidMet.tail (laidMet.tail h)
  have h2 := laidMet.tail (laidMet.tail h1)
  exact ⟨envT_of h1, errAt_syn (laidMet.tail h2), errAt_rng h2, hs⟩

theorem tripL_ne {F : Nat → ByteArray} {n : Nat} {f : ByteArray} {s : Int} : tripL F n f s ≠ [] := by
  unfold tripL
  intro h
  simp at h

theorem tripT_law (F : Nat → ByteArray) (n : Nat) (f : ByteArray) (s : Int) : (tripT F n f s = [] ∧ ∀ G m g t, ¬ IsT [] G m g t) ∨ (tripT F n f s ≠ [] ∧ IsT (tripT F n f s) F n f s) := by
  by_cases h : tripT F n f s = []
  · exact Or.inl ⟨h, fun G m g t k => tripL_ne k.2⟩
  · exact Or.inr ⟨h, (tripT_is h).1 rfl⟩

theorem IsT.put {T : List UInt8} {F : Nat → ByteArray} {n : Nat} {f : ByteArray} {s : Int} (h : IsT T F n f s) : tripT F n f s = T := by
  unfold tripT
  rw [if_pos h.1]
  exact h.2

set_option maxRecDepth 100000 in
set_option maxHeartbeats 2000000 in
theorem wsTrip_same (a a' : Option Addr) (n c c' : Nat) (f : ByteArray) (s : Int) (F : Nat → ByteArray) (w : World) (h : InS w a n F) (h' : InS w a' n F) (hn : n ≤ 1048576) (hc : n ≤ c) (hc' : n ≤ c') :
    Calls Tryz.prog 7 #[.agg #[.slice a n c, .string f, .int .i64 s], .agg #[.slice a' n c', .string f, .int .i64 s]] w fun e w' => e = .returned (.bool true) ∧ Below w.heap.size w w' := by
  have hb0 := ((Below.refl w.heap.size w).alloc (Nat.le_refl _) (.cells #[.slice a n c, .string f, .int .i64 s] 26)).alloc (by simp) (.cells #[.slice a' n c', .string f, .int .i64 s] 26)
  have HB := Lib.hid hb0
  have HEQ := Lib.hid (wsWords_same a a' n c c' F _ (h.below hb0 (Nat.le_refl _)) (h'.below hb0 (Nat.le_refl _)) hn hc hc')
  clear h h' hb0
  go_enter Tryz.func7, Tryz.ntmps7
  go_wp2_with fail
  with_reducible refine HEQ.out.mono ?_
  rintro e w' ⟨rfl, z, rfl⟩
  go_wp2_with fail
  go_ret
  exact ⟨rfl, below_drewN HB.out z⟩

set_option maxRecDepth 100000 in
set_option maxHeartbeats 1500000 in
theorem FnTripText_walk (a0 : Option Addr) (len0 cap0 : Nat) (z0 : Unit) (a1 : Option Addr) (len1 cap1 : Nat) (z1 : Unit) (w : World) (h : BytesIn w a0 len0 cap0) (h' : BytesIn w a1 len1 cap1) (henv : Env7 w) :
    Calls Tryz.prog 3 #[.slice a0 len0 cap0, .slice a1 len1 cap1] w fun e w' => e = .returned (.bool true) ∧ Below w.heap.size w w' := by
  have HE := Lib.hid (show EnvN w from henv)
  have H := Lib.hid h
  have H' := Lib.hid h'
  have HB0 := Lib.hid (Below.refl w.heap.size w)
  have h2 := h.2.1
  have h2' := h'.2.1
  unfold maxLen at h2 h2'
  have h1 := h.1
  have h1' := h'.1
  clear h h' henv
  by_cases hs : 1048576 < len0
  · go_enter Tryz.func3, Tryz.ntmps3
    go_wp2_with fail
    go_ret
    exact ⟨rfl, HB0.out⟩
  by_cases hs' : 1048576 < len1
  · go_enter Tryz.func3, Tryz.ntmps3
    go_wp2_with fail
    go_ret
    exact ⟨rfl, HB0.out⟩
  go_enter Tryz.func3, Tryz.ntmps3
  go_wp2_with fail
  refine (DrawTripRead_any _ _ _ _ H.out).mono ?_
  rintro e w1 ⟨t, rfl, ht, hb⟩
  have HB1 := Lib.hid hb
  clear hb
  go_wp2_with fail
  refine (iTripRead_any t w1 (by omega) (HE.out.below HB1.out)).mono ?_
  rintro e w2 ⟨a, n, c, f, s, F, b, rfl, ho, hn, hcn, hb, hc⟩
  obtain rfl := hcn trivial
  have hb2 := (Below.refl w2.heap.size w2).alloc (Nat.le_refl _) (.cells #[.slice a c c, .string f, .int .i64 s] 26)
  have HO2 := Lib.hid (ho.inS.below hb2 (Nat.le_refl _))
  have HB2 := Lib.hid (bT (bT HB1.out hb) hb2)
  have hT1 := blk_alloc_new w2 (.cells #[.slice a c c, .string f, .int .i64 s] 26)
  have hT1s : w2.heap.size < (w2.alloc (.cells #[.slice a c c, .string f, .int .i64 s] 26)).heap.size := by simp
  have HC := Lib.hid hc
  clear ho hb hb2 hc
  go_wp2_with fail
  obtain ⟨wA, hwA⟩ : ∃ wA, wA = w2.alloc (.cells #[.slice a c c, .string f, .int .i64 s] 26) := ⟨_, rfl⟩
  obtain ⟨T1, hT1e⟩ : ∃ T1, T1 = w2.heap.size := ⟨_, rfl⟩
  rw [← hwA] at HO2 HB2 hT1 hT1s
  rw [← hT1e] at hT1 hT1s
  rw [← hwA, ← hT1e]
  clear hwA hT1e
  refine (sTripRead_any t wA (by omega)).mono ?_
  rintro e w3 ⟨a', n', c', f', s', G, b', rfl, ho, hn', -, hb, hc⟩
  obtain ⟨rfl, rfl, rfl, rfl, hFG⟩ := trPost_same HC.out hc
  have hle := ho.le
  have hbX := (Below.refl w3.heap.size w3).alloc (Nat.le_refl _) (.cells #[.slice a' c c', .string f, .int .i64 s] 26)
  have hT13 := (hb.block T1 hT1s).trans hT1
  have hT1X := (blk_alloc_lt w3 (.cells #[.slice a' c c', .string f, .int .i64 s] 26) T1 (heap_lt hT13)).trans hT13
  have HIX := Lib.hid ((HO2.out.below hb (Nat.le_refl _)).below hbX (Nat.le_refl _))
  have HGX := Lib.hid ((ho.inS.congr (fun i hi => (hFG i hi).symm)).below hbX (Nat.le_refl _))
  have HBX := Lib.hid (bT (bT HB2.out hb) hbX)
  have HWS := Lib.hid (wsTrip_same a a' c c c' f s F _ HIX.out HGX.out (by omega) (Nat.le_refl _) hle)
  have HT1X := Lib.hid hT1X
  have c0 := cell_of hT1X 0
  have c1 := cell_of hT1X 1
  have c2 := cell_of hT1X 2
  simp at c0 c1 c2
  clear ho hb hc hFG hbX hT13 hT1X hT1 hT1s HO2
  have hput : b = true → tripT F c f s = t.data.toList := by
    intro hb
    rcases HC.out with ⟨_, hw⟩ | ⟨hf, _⟩
    · exact hw.put
    · rw [hb] at hf; cases hf
  have hfs : b = true → f.size ≤ 100 ∧ ∀ i, i < c → (F i).size ≤ 100 := by
    intro hb
    rcases HC.out with ⟨_, hw⟩ | ⟨hf, _⟩
    · obtain ⟨k1, -, -, k4, -⟩ := trip_parts hw.1
      exact ⟨by have := nmS_size k4; omega, fun i hi => by have := nmS_size (k1 i hi); omega⟩
    · rw [hb] at hf; cases hf
  cases b with
  | false =>
    clear hput hfs HC
    go_wp2_with fail
    refine HWS.out.mono ?_
    rintro e w5 ⟨rfl, hb⟩
    have HB5 := Lib.hid (bT HBX.out hb)
    clear hb c0 c1 c2 HWS HIX HGX HT1X
    go_wp2_with fail
    refine (DrawTripWrite_any _ _ _ _ (H'.out.below HB5.out)).mono ?_
    rintro e w7 ⟨a7, n7, c7, f7, s7, rfl, hn7, hf7, hsr, hb⟩
    obtain ⟨a8, c8, D, he, hnc, hcm, hin, hD⟩ := hsr.inS
    simp only [Value.slice.injEq, true_and] at he
    obtain ⟨rfl, rfl⟩ := he
    unfold maxLen at hcm
    have hb8 := (Below.refl w7.heap.size w7).alloc (Nat.le_refl _) (.cells #[.slice a7 n7 c7, .string f7, .int .i64 s7] 26)
    have HIN8 := Lib.hid (hin.below hb8 (Nat.le_refl _))
    have HB8 := Lib.hid (bT (bT HB5.out hb) hb8)
    have hT3 := blk_alloc_new w7 (.cells #[.slice a7 n7 c7, .string f7, .int .i64 s7] 26)
    have hDD := Lib.hid hD
    have hT3s : w7.heap.size < (w7.alloc (.cells #[.slice a7 n7 c7, .string f7, .int .i64 s7] 26)).heap.size := by simp
    clear hsr hb hin hD hb8
    go_wp2_with fail
    obtain ⟨w8, hw8⟩ : ∃ w8, w8 = w7.alloc (.cells #[.slice a7 n7 c7, .string f7, .int .i64 s7] 26) := ⟨_, rfl⟩
    obtain ⟨T3, hT3e⟩ : ∃ T3, T3 = w7.heap.size := ⟨_, rfl⟩
    rw [← hw8] at HIN8 HB8 hT3 hT3s
    rw [← hT3e] at hT3 hT3s
    rw [← hw8, ← hT3e]
    clear hw8 hT3e
    refine (iTripWrite_any _ n7 _ f7 s7 D w8 HIN8.out (by omega) hnc (by omega) (fun i hi => by have := hDD.out i hi; omega) (by omega) (HE.out.below HB8.out).t).mono ?_
    rintro e w9 ⟨rfl, hb⟩
    have HIN9 := Lib.hid (HIN8.out.below hb (Nat.le_refl _))
    have HB9 := Lib.hid (bT HB8.out hb)
    have hT39 := (hb.block T3 hT3s).trans hT3
    have hsz : (txt (tripT D n7 f7 s7)).size ≤ 100 := by rw [txt_size]; exact tripT_size
    have hlaw := tripT_law D n7 f7 s7
    have HSP : Hid (∀ wx, InS wx _ n7 D → Calls Tryz.prog 10 #[.agg #[.slice a7 n7 c7, .string f7, .int .i64 s7]] wx (StrPost (tripT D n7 f7 s7) wx)) := fun wx hi => sTripWrite_any _ n7 _ f7 s7 D wx hi (by omega) hnc (fun i hi => by have := hDD.out i hi; omega) (by omega)
    obtain ⟨X, hX⟩ : ∃ X, X = tripT D n7 f7 s7 := ⟨_, rfl⟩
    rw [← hX] at hsz hlaw HSP
    rw [← hX]
    clear hX hb hT3 hT3s HIN8 HB8
    go_wp2_with fail
    refine (iTripRead_any (txt X) w9 (by omega) (HE.out.below HB9.out)).mono ?_
    rintro e w10 ⟨a10, n10, c10, f10, s10, G, b10, rfl, ho, hn10, -, hb, hc⟩
    rw [txt_data] at hc
    have hle := ho.le
    have hbX := (Below.refl w10.heap.size w10).alloc (Nat.le_refl _) (.cells #[.slice a10 n10 c10, .string f10, .int .i64 s10] 26)
    have hT310 := (hb.block T3 (heap_lt hT39)).trans hT39
    have hT3X := (blk_alloc_lt w10 (.cells #[.slice a10 n10 c10, .string f10, .int .i64 s10] 26) T3 (heap_lt hT310)).trans hT310
    have hT4X := blk_alloc_new w10 (.cells #[.slice a10 n10 c10, .string f10, .int .i64 s10] 26)
    have HINX := Lib.hid ((HIN9.out.below hb (Nat.le_refl _)).below hbX (Nat.le_refl _))
    have HOX := Lib.hid (ho.inS.below hbX (Nat.le_refl _))
    have HBX := Lib.hid (bT (bT HB9.out hb) hbX)
    have hT4s : w10.heap.size < (w10.alloc (.cells #[.slice a10 n10 c10, .string f10, .int .i64 s10] 26)).heap.size := by simp
    have hT3s : T3 < (w10.alloc (.cells #[.slice a10 n10 c10, .string f10, .int .i64 s10] 26)).heap.size := heap_lt hT3X
    clear ho hb hbX hT310 HIN9 HB9 hT39
    have d0 := cell_of hT3X 0
    have d1 := cell_of hT3X 1
    have d2 := cell_of hT3X 2
    simp at d0 d1 d2
    rcases hlaw with ⟨rfl, hno⟩ | ⟨hX0, his⟩
    · obtain rfl : b10 = false := by
        rcases hc with ⟨_, h⟩ | ⟨h, _⟩
        · exact absurd h (hno _ _ _ _)
        · exact h
      rw [show txt [] = (⟨#[]⟩ : ByteArray) from rfl]
      clear hT3X hT4X hc
      go_wp2_with fail
      refine (HSP.out _ HINX.out).mono ?_
      rintro e w12 ⟨rfl, hb⟩
      have HB12 := Lib.hid (bT HBX.out hb)
      rw [show txt [] = (⟨#[]⟩ : ByteArray) from rfl]
      clear hb
      go_wp2_with fail
      go_ret
      exact ⟨rfl, HB12.out⟩
    · obtain ⟨rfl, rfl, rfl, rfl, hGD⟩ := trPost_same hc (Or.inl ⟨rfl, his⟩)
      have HOD := Lib.hid (HOX.out.congr hGD)
      have hne : (txt X).toList.isEmpty = false := by
        rw [Lib.toList_data, txt_data]
        cases X with
        | nil => exact absurd rfl hX0
        | cons x l => rfl
      have HT3X := Lib.hid hT3X
      have HT4X := Lib.hid hT4X
      clear hT3X hT4X hc his hX0 hGD HOX
      go_wp2_with fail
      refine (HSP.out _ HINX.out).mono ?_
      rintro e w12 ⟨rfl, hb⟩
      have HB12 := Lib.hid (bT HBX.out hb)
      have hT312 := (hb.block T3 hT3s).trans HT3X.out
      have hT412 := (hb.block _ hT4s).trans HT4X.out
      have HWS := Lib.hid (wsTrip_same _ _ _ _ _ f10 s10 D w12 (HOD.out.below hb (Nat.le_refl _)) (HINX.out.below hb (Nat.le_refl _)) (by omega) hle hnc)
      clear hb d0 d1 d2
      have d0 := cell_of hT312 0
      have d1 := cell_of hT312 1
      have d2 := cell_of hT312 2
      simp at d0 d1 d2
      have b0 := cell_of hT412 0
      have b1 := cell_of hT412 1
      have b2 := cell_of hT412 2
      simp at b0 b1 b2
      clear hT312 hT412
      go_wp2_with fail
      refine HWS.out.mono ?_
      rintro e w13 ⟨rfl, hb⟩
      have HB13 := Lib.hid (bT HB12.out hb)
      clear hb
      go_wp2_with fail
      go_ret
      exact ⟨rfl, HB13.out⟩
  | true =>
    have hput1 := hput rfl
    have hfs1 := hfs rfl
    clear HC hput hfs
    go_wp2_with fail
    refine HWS.out.mono ?_
    rintro e w5 ⟨rfl, hb⟩
    have HB5 := Lib.hid (bT HBX.out hb)
    have hT15 := (hb.block T1 (heap_lt HT1X.out)).trans HT1X.out
    have HI5 := Lib.hid (HIX.out.below hb (Nat.le_refl _))
    clear hb c0 c1 c2
    have c0 := cell_of hT15 0
    have c1 := cell_of hT15 1
    have c2 := cell_of hT15 2
    simp at c0 c1 c2
    clear hT15 HWS HIX HGX HT1X
    go_wp2_with fail
    refine (iTripWrite_any a c c f s F w5 HI5.out (by omega) (Nat.le_refl _) (by omega) (fun i hi => by have := hfs1.2 i hi; omega) (by omega) (HE.out.below HB5.out).t).mono ?_
    rintro e w6 ⟨rfl, hb⟩
    have HB6 := Lib.hid (bT HB5.out hb)
    have hret : txt (tripT F c f s) = t := by rw [hput1]; exact data_txt t
    rw [hret]
    clear hb hput1 hret hfs1 c0 c1 c2 HI5
    go_wp2_with fail
    refine (DrawTripWrite_any _ _ _ _ (H'.out.below HB6.out)).mono ?_
    rintro e w7 ⟨a7, n7, c7, f7, s7, rfl, hn7, hf7, hsr, hb⟩
    obtain ⟨a8, c8, D, he, hnc, hcm, hin, hD⟩ := hsr.inS
    simp only [Value.slice.injEq, true_and] at he
    obtain ⟨rfl, rfl⟩ := he
    unfold maxLen at hcm
    have hb8 := (Below.refl w7.heap.size w7).alloc (Nat.le_refl _) (.cells #[.slice a7 n7 c7, .string f7, .int .i64 s7] 26)
    have HIN8 := Lib.hid (hin.below hb8 (Nat.le_refl _))
    have HB8 := Lib.hid (bT (bT HB6.out hb) hb8)
    have hT3 := blk_alloc_new w7 (.cells #[.slice a7 n7 c7, .string f7, .int .i64 s7] 26)
    have hDD := Lib.hid hD
    have hT3s : w7.heap.size < (w7.alloc (.cells #[.slice a7 n7 c7, .string f7, .int .i64 s7] 26)).heap.size := by simp
    clear hsr hb hin hD hb8
    go_wp2_with fail
    obtain ⟨w8, hw8⟩ : ∃ w8, w8 = w7.alloc (.cells #[.slice a7 n7 c7, .string f7, .int .i64 s7] 26) := ⟨_, rfl⟩
    obtain ⟨T3, hT3e⟩ : ∃ T3, T3 = w7.heap.size := ⟨_, rfl⟩
    rw [← hw8] at HIN8 HB8 hT3 hT3s
    rw [← hT3e] at hT3 hT3s
    rw [← hw8, ← hT3e]
    clear hw8 hT3e
    refine (iTripWrite_any _ n7 _ f7 s7 D w8 HIN8.out (by omega) hnc (by omega) (fun i hi => by have := hDD.out i hi; omega) (by omega) (HE.out.below HB8.out).t).mono ?_
    rintro e w9 ⟨rfl, hb⟩
    have HIN9 := Lib.hid (HIN8.out.below hb (Nat.le_refl _))
    have HB9 := Lib.hid (bT HB8.out hb)
    have hT39 := (hb.block T3 hT3s).trans hT3
    have hsz : (txt (tripT D n7 f7 s7)).size ≤ 100 := by rw [txt_size]; exact tripT_size
    have hlaw := tripT_law D n7 f7 s7
    have HSP : Hid (∀ wx, InS wx _ n7 D → Calls Tryz.prog 10 #[.agg #[.slice a7 n7 c7, .string f7, .int .i64 s7]] wx (StrPost (tripT D n7 f7 s7) wx)) := fun wx hi => sTripWrite_any _ n7 _ f7 s7 D wx hi (by omega) hnc (fun i hi => by have := hDD.out i hi; omega) (by omega)
    obtain ⟨X, hX⟩ : ∃ X, X = tripT D n7 f7 s7 := ⟨_, rfl⟩
    rw [← hX] at hsz hlaw HSP
    rw [← hX]
    clear hX hb hT3 hT3s HIN8 HB8
    go_wp2_with fail
    refine (iTripRead_any (txt X) w9 (by omega) (HE.out.below HB9.out)).mono ?_
    rintro e w10 ⟨a10, n10, c10, f10, s10, G, b10, rfl, ho, hn10, -, hb, hc⟩
    rw [txt_data] at hc
    have hle := ho.le
    have hbX := (Below.refl w10.heap.size w10).alloc (Nat.le_refl _) (.cells #[.slice a10 n10 c10, .string f10, .int .i64 s10] 26)
    have hT310 := (hb.block T3 (heap_lt hT39)).trans hT39
    have hT3X := (blk_alloc_lt w10 (.cells #[.slice a10 n10 c10, .string f10, .int .i64 s10] 26) T3 (heap_lt hT310)).trans hT310
    have hT4X := blk_alloc_new w10 (.cells #[.slice a10 n10 c10, .string f10, .int .i64 s10] 26)
    have HINX := Lib.hid ((HIN9.out.below hb (Nat.le_refl _)).below hbX (Nat.le_refl _))
    have HOX := Lib.hid (ho.inS.below hbX (Nat.le_refl _))
    have HBX := Lib.hid (bT (bT HB9.out hb) hbX)
    have hT4s : w10.heap.size < (w10.alloc (.cells #[.slice a10 n10 c10, .string f10, .int .i64 s10] 26)).heap.size := by simp
    have hT3s : T3 < (w10.alloc (.cells #[.slice a10 n10 c10, .string f10, .int .i64 s10] 26)).heap.size := heap_lt hT3X
    clear ho hb hbX hT310 HIN9 HB9 hT39
    have d0 := cell_of hT3X 0
    have d1 := cell_of hT3X 1
    have d2 := cell_of hT3X 2
    simp at d0 d1 d2
    rcases hlaw with ⟨rfl, hno⟩ | ⟨hX0, his⟩
    · obtain rfl : b10 = false := by
        rcases hc with ⟨_, h⟩ | ⟨h, _⟩
        · exact absurd h (hno _ _ _ _)
        · exact h
      rw [show txt [] = (⟨#[]⟩ : ByteArray) from rfl]
      clear hT3X hT4X hc
      go_wp2_with fail
      refine (HSP.out _ HINX.out).mono ?_
      rintro e w12 ⟨rfl, hb⟩
      have HB12 := Lib.hid (bT HBX.out hb)
      rw [show txt [] = (⟨#[]⟩ : ByteArray) from rfl]
      clear hb
      go_wp2_with fail
      go_ret
      exact ⟨rfl, HB12.out⟩
    · obtain ⟨rfl, rfl, rfl, rfl, hGD⟩ := trPost_same hc (Or.inl ⟨rfl, his⟩)
      have HOD := Lib.hid (HOX.out.congr hGD)
      have hne : (txt X).toList.isEmpty = false := by
        rw [Lib.toList_data, txt_data]
        cases X with
        | nil => exact absurd rfl hX0
        | cons x l => rfl
      have HT3X := Lib.hid hT3X
      have HT4X := Lib.hid hT4X
      clear hT3X hT4X hc his hX0 hGD HOX
      go_wp2_with fail
      refine (HSP.out _ HINX.out).mono ?_
      rintro e w12 ⟨rfl, hb⟩
      have HB12 := Lib.hid (bT HBX.out hb)
      have hT312 := (hb.block T3 hT3s).trans HT3X.out
      have hT412 := (hb.block _ hT4s).trans HT4X.out
      have HWS := Lib.hid (wsTrip_same _ _ _ _ _ f10 s10 D w12 (HOD.out.below hb (Nat.le_refl _)) (HINX.out.below hb (Nat.le_refl _)) (by omega) hle hnc)
      clear hb d0 d1 d2
      have d0 := cell_of hT312 0
      have d1 := cell_of hT312 1
      have d2 := cell_of hT312 2
      simp at d0 d1 d2
      have b0 := cell_of hT412 0
      have b1 := cell_of hT412 1
      have b2 := cell_of hT412 2
      simp at b0 b1 b2
      clear hT312 hT412
      go_wp2_with fail
      refine HWS.out.mono ?_
      rintro e w13 ⟨rfl, hb⟩
      have HB13 := Lib.hid (bT HB12.out hb)
      clear hb
      go_wp2_with fail
      go_ret
      exact ⟨rfl, HB13.out⟩

end My
end Go.Proofs.YtjmlekhgnbbjoaaGreatDoor
