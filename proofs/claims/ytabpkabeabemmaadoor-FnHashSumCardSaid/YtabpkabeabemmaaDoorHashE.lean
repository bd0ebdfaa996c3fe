/- FnHashSum: the walk. -/
import Derived.Test.YtabpkabeabemmaaDoorHashD
namespace Go.Proofs.YtabpkabeabemmaaDoor
open Go.RowKit Go.Deep
set_option linter.unusedVariables false
namespace My

theorem six_ix (x : Int) (h0 : 0 ≤ x) (h1 : x ≤ 4) (i : Int) (i0 : 0 ≤ i) (i1 : i < 6) (w : World) (t : TypeId) :
    ∃ n : Nat, (w.alloc (.cells #[.int .i64 x, .int .i64 18, .int .i64 19, .int .i64 55, .int .i64 56, .int .i64 64] t)).cell? ⟨w.heap.size, i.toNat, none⟩ = some (.int .i64 (n : Int)) ∧ n ≤ 64 := by
  have hb := blk_alloc_new w (.cells #[.int .i64 x, .int .i64 18, .int .i64 19, .int .i64 55, .int .i64 56, .int .i64 64] t)
  have : i = 0 ∨ i = 1 ∨ i = 2 ∨ i = 3 ∨ i = 4 ∨ i = 5 := by omega
  rcases this with rfl | rfl | rfl | rfl | rfl | rfl
  · exact ⟨x.toNat, by simp only [World.cell?, hb]; simp; omega, by omega⟩
  · exact ⟨18, by simp only [World.cell?, hb]; rfl, by omega⟩
  · exact ⟨19, by simp only [World.cell?, hb]; rfl, by omega⟩
  · exact ⟨55, by simp only [World.cell?, hb]; rfl, by omega⟩
  · exact ⟨56, by simp only [World.cell?, hb]; rfl, by omega⟩
  · exact ⟨64, by simp only [World.cell?, hb]; rfl, by omega⟩

set_option maxRecDepth 100000 in
set_option maxHeartbeats 4000000 in
theorem DrawHashSum_any (a : Option Addr) (len cap : Nat) (wB : World) (h : BytesIn wB a len cap) :
    Calls Tryd.prog 7 #[.slice a len cap] wB fun e w' => ∃ t : ByteArray, e = .returned (.string t) ∧ t.size ≤ 1000 ∧ Below wB.heap.size wB w' := by
  go_enter Tryd.func7, Tryd.ntmps7
  go_wp2_with fail
  refine (l1Open_any _ _ _ _ h).mono ?_
  rintro e w ⟨rfl, hi, hb⟩
  obtain ⟨R, hR⟩ : ∃ R, R = wB.heap.size := ⟨_, rfl⟩
  rw [← hR] at hi ⊢
  have HRR := Lib.hid hR
  have HB := Lib.hid hb
  obtain ⟨a1, len1, cap1, hx, hf⟩ := rdX_ofS hi
  have hRlt := hi.lt
  have HX := Lib.hid hx
  clear hi hb hR hx hf
  go_wp2_with fail
  refine (of_at (q := 3) (HX.out.alloc) (by omega) w.heap.size 3 3 (by omega) (by omega) (by omega) (by omega) (by simp) (by
    intro i hi
    have hb := blk_alloc_new w (.cells #[.string ⟨#[97]⟩, .string ⟨#[0]⟩, .string ⟨#[97, 98, 99]⟩] 9)
    have : i = 0 ∨ i = 1 ∨ i = 2 := by omega
    rcases this with rfl | rfl | rfl
    · exact ⟨_, by simp only [World.cell?, hb]; rfl, ⟨#[97]⟩, rfl, by decide⟩
    · exact ⟨_, by simp only [World.cell?, hb]; rfl, ⟨#[0]⟩, rfl, by decide⟩
    · exact ⟨_, by simp only [World.cell?, hb]; rfl, ⟨#[97, 98, 99]⟩, rfl, by decide⟩)).mono ?_
  rintro e w1 ⟨s, rfl, hs, hx1, ho1⟩
  have HX1 := Lib.hid hx1
  have HO1 := Lib.hid ((Only.refl R w).alloc (.cells #[.string ⟨#[97]⟩, .string ⟨#[0]⟩, .string ⟨#[97, 98, 99]⟩] 9) |>.trans ho1)
  clear hx1 ho1 HX
  go_wp2_with fail
  refine (pick_atX HX1.out (by omega) (by omega) (by omega)).mono ?_
  rintro e w2 ⟨x, rfl, x0, x1, hx2, ho2⟩
  have HX2 := Lib.hid hx2
  have HO2 := Lib.hid (HO1.out.trans ho2)
  clear hx2 ho2 HX1 HO1
  go_wp2_with fail
  refine (pick_atX (HX2.out.alloc) (by omega) (by omega) (by omega)).mono ?_
  rintro e w3 ⟨y, rfl, y0, y1, hx3, ho3⟩
  have hR2 := HX2.out.lt
  obtain ⟨n, hn, hn64⟩ := six_ix x x0 (by omega) y y0 (by omega) w2 3
  have hc : w3.cell? ⟨w2.heap.size, y.toNat, none⟩ = some (.int .i64 (n : Int)) := (World.cell?_of_block (ho3.block w2.heap.size (by simp) (by simp; omega))).trans hn
  have HO3 := Lib.hid ((HO2.out.alloc (.cells #[.int .i64 x, .int .i64 18, .int .i64 19, .int .i64 55, .int .i64 56, .int .i64 64] 3)).trans ho3)
  have y6 : y < 6 := by omega
  clear hx3 ho3 HX2 HO2 hn
  go_wp2_with fail
  have hsn : s.size * n ≤ 3 * 64 := Nat.mul_le_mul hs hn64
  refine (l1Many_any s n _ w3 rfl (by omega) (by omega)).mono ?_
  rintro e w4 ⟨t, rfl, ht, rfl⟩
  have HT : Hid (t.size ≤ 1000) := by show _ ≤ _; omega
  clear ht
  go_wp2_with fail
  go_ret
  exact ⟨t, rfl, HT.out, drawn_below HRR.out HB.out HO3.out⟩

theorem toList_of {l : List UInt8} : (txt l).toList = l := by rw [Lib.toList_data, txt_data]
set_option maxRecDepth 100000 in
set_option maxHeartbeats 4000000 in
theorem FnHashSum_walk (a : Option Addr) (len cap : Nat) (_z : Unit) (w : World) (w0 : BytesIn w a len cap) (henv : Env5 w) :
    Calls Tryd.prog 4 #[.slice a len cap] w fun e w' => e = .returned (.bool true) ∧ Below w.heap.size w w' := by
  have HE := Lib.hid (show EnvH w from henv)
  have HW := Lib.hid w0
  obtain ⟨h1, h2, -⟩ := w0
  unfold maxLen at h2
  clear henv
  by_cases hbig : 1048576 < len
  · go_enter Tryd.func4, Tryd.ntmps4
    go_wp2_with fail
    go_ret
    exact ⟨rfl, Below.refl _ _⟩
  · have HABC := Lib.hid (fun wx h => (show Calls Tryd.prog 6 #[.string ⟨#[97, 98, 99]⟩] wx (StrPost abcR wx) from by
      have := iHash_sha ⟨#[97, 98, 99]⟩ wx (by decide) h
      rw [show (⟨#[97, 98, 99]⟩ : ByteArray).data.toList = abcL from rfl, abc_sum] at this
      exact this))
    go_enter Tryd.func4, Tryd.ntmps4
    go_wp2_with fail
    refine (DrawHashSum_any a len cap w HW.out).mono ?_
    rintro e w1 ⟨s, rfl, hs, b1⟩
    have HI := Lib.hid (fun wx h => iHash_sha s wx (by omega) h)
    have HS := Lib.hid (fun wx => sHash_sha s wx (by omega))
    have hlen := shaT_length s.data.toList
    obtain ⟨L, hL⟩ : ∃ L, L = shaT s.data.toList := ⟨_, rfl⟩
    rw [← hL] at hlen
    simp only [← hL] at HI HS
    have hLs : (txt L).size = 64 := by rw [txt_size]; exact hlen
    have hAL : txt abcR = ⟨#[98, 97, 55, 56, 49, 54, 98, 102, 56, 102, 48, 49, 99, 102, 101, 97, 52, 49, 52, 49, 52, 48, 100, 101, 53, 100, 97, 101, 50, 50, 50, 51, 98, 48, 48, 51, 54, 49, 97, 51, 57, 54, 49, 55, 55, 97, 57, 99, 98, 52, 49, 48, 102, 102, 54, 49, 102, 50, 48, 48, 49, 53, 97, 100]⟩ := rfl
    clear hL hlen hs
    have HB1 := Lib.hid b1
    clear b1
    go_wp2_with fail
    refine (HI.out _ (HE.out.below HB1.out)).mono ?_
    rintro e w2 ⟨rfl, b2⟩
    have HB2 := Lib.hid (bT HB1.out b2 HB1.out.size)
    clear b2
    go_wp2_with fail
    refine (HS.out _).mono ?_
    rintro e w3 ⟨rfl, b3⟩
    have HB3 := Lib.hid (bT HB2.out b3 HB2.out.size)
    clear b3
    go_wp2_with fail
    refine (HI.out _ (HE.out.below HB3.out)).mono ?_
    rintro e w4 ⟨rfl, b4⟩
    have HB4 := Lib.hid (bT HB3.out b4 HB3.out.size)
    clear b4
    go_wp2_with fail
    refine (HABC.out _ (HE.out.below HB4.out)).mono ?_
    rintro e w5 ⟨rfl, b5⟩
    have HB5 := Lib.hid (bT HB4.out b5 HB4.out.size)
    clear b5
    rw [hAL]
    go_wp2_with fail
    go_ret
    exact ⟨rfl, HB5.out⟩
end My
end Go.Proofs.YtabpkabeabemmaaDoor
