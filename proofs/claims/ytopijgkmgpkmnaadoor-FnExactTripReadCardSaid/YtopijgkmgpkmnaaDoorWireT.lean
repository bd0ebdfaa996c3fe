/- FnWireText: the drawn text, the walk. -/
import Derived.Test.YtopijgkmgpkmnaaDoorBend
import Derived.Test.YtopijgkmgpkmnaaDoorWireX2
namespace Go.Proofs.YtopijgkmgpkmnaaDoor
open Go.RowKit Go.Deep
set_option linter.unusedVariables false
namespace My

def TextPost (q : Nat) (w : World) (e : Ending) (w' : World) : Prop := ∃ t : ByteArray, e = .returned (.string t) ∧ t.size ≤ q ∧ Below w.heap.size w w'

set_option maxRecDepth 100000 in
set_option maxHeartbeats 4000000 in
theorem DrawWireGet_any (a : Option Addr) (len cap : Nat) (wB : World) (h : BytesIn wB a len cap) :
    Calls Tryd.prog 29 #[.slice a len cap] wB (TextPost 400000 wB) := by
  have HIN := Lib.hid h
  go_enter Tryd.func29, Tryd.ntmps29
  go_wp2_with fail
  refine (l1Open_any _ _ _ _ h).mono ?_
  rintro e w ⟨rfl, hi, hb⟩
  obtain ⟨R, hR⟩ : ∃ R, R = wB.heap.size := ⟨_, rfl⟩
  rw [← hR] at hi ⊢
  have HRR := Lib.hid hR
  have HB := Lib.hid hb
  obtain ⟨a1, len1, cap1, hx, hf⟩ := rdX_ofS hi
  have HI := Lib.hid hx
  have hRlt := hi.lt
  clear h hi hb hR hx hf
  go_wp2_with fail
  refine (pick_atX (n := 6) HI.out (by omega) (by omega) (by omega)).mono ?_
  rintro e w1 ⟨x, rfl, x0, x1, hr, ho⟩
  have HR1 := Lib.hid hr
  have HO1 := Lib.hid ho
  have sz1 := ho.size
  clear hr ho
  by_cases hx : x = 0
  · subst hx
    go_wp2_with fail
    refine (of_at (q := 10) (HR1.out.alloc) (by omega) w1.heap.size 9 9 (by omega) (by omega) (by omega) (by omega) (by simp) ?_).mono ?_
    · intro i hi
      have hb := blk_alloc_new w1 (.cells #[.string ⟨#[]⟩, .string ⟨#[48, 58, 44]⟩, .string ⟨#[49, 58, 97]⟩, .string ⟨#[48, 49, 58, 97, 44]⟩, .string ⟨#[50, 58, 97, 44]⟩, .string ⟨#[120]⟩, .string ⟨#[49, 58, 97, 44, 120]⟩, .string ⟨#[45, 49, 58, 44]⟩, .string ⟨#[58, 44]⟩] 9)
      have : i = 0 ∨ i = 1 ∨ i = 2 ∨ i = 3 ∨ i = 4 ∨ i = 5 ∨ i = 6 ∨ i = 7 ∨ i = 8 := by omega
      rcases this with rfl | rfl | rfl | rfl | rfl | rfl | rfl | rfl | rfl
      all_goals
        refine ⟨_, by simp only [World.cell?, hb]; rfl, _, rfl, ?_⟩
        decide
    rintro e w2 ⟨s, rfl, hs, hr2, ho2⟩
    have HO2 := Lib.hid ((HO1.out.alloc _).trans ho2)
    clear hr2 ho2
    go_wp2_with fail
    go_ret
    exact ⟨s, rfl, by omega, drawn_below HRR.out HB.out HO2.out⟩
  · have HB1 := Lib.hid (drawn_below HRR.out HB.out HO1.out)
    go_wp2_with fail
    refine (DrawWirePut_any _ _ _ _ (HIN.out.below HB1.out)).mono ?_
    rintro e w2 ⟨g, n, c, F, rfl, hn, hc, ho, hF, hg, hb⟩
    have HO := Lib.hid ho
    have hz : sumZ F n ≤ 300000 := by have := sumZ_bound hF n (Nat.le_refl _); omega
    have HB2 := Lib.hid (bT HB1.out hb)
    have HR2 := Lib.hid (HR1.out.below hb)
    have HC2 := Lib.hid hb
    clear ho hF hb
    go_wp2_with fail
    refine (l3Put_any _ n c F w2 HO.out.inS (by omega) hc (by omega)).mono ?_
    rintro e w3 ⟨rfl, hb⟩
    have HB3 := Lib.hid (bT HB2.out hb)
    have HR3 := Lib.hid (HR2.out.below hb)
    have sz3 := HB3.out.size
    have hp := putL_len F n (by omega) n (Nat.le_refl _)
    clear hb
    obtain ⟨P, hP⟩ : ∃ P, P = txt (putL F n) := ⟨_, rfl⟩
    rw [← hP] at hp ⊢
    clear hP
    have hR3 : R < w3.heap.size := HR3.out.lt
    go_wp2_with fail
    refine (l14Bend_any (q := 1) (HR3.out.alloc) (by omega) P (by omega) (by omega) w3.heap.size 4 4 (by omega) (by omega) (by omega) (by omega) (by simp) ?_ (cs := 4) (by omega) (by omega)).mono ?_
    · intro i hi
      have hb := blk_alloc_new w3 (.cells #[.string ⟨#[58]⟩, .string ⟨#[44]⟩, .string ⟨#[49]⟩, .string ⟨#[48]⟩] 9)
      have : i = 0 ∨ i = 1 ∨ i = 2 ∨ i = 3 := by omega
      rcases this with rfl | rfl | rfl | rfl
      all_goals
        refine ⟨_, by simp only [World.cell?, hb]; rfl, _, rfl, ?_⟩
        decide
    rintro e w4 ⟨t, rfl, ht, ho4⟩
    have HO4 := Lib.hid ho4
    clear ho4
    go_wp2_with fail
    go_ret
    refine ⟨t, rfl, by omega, ?_⟩
    have h1 := (HB3.out).alloc HB3.out.size (.cells #[.string ⟨#[58]⟩, .string ⟨#[44]⟩, .string ⟨#[49]⟩, .string ⟨#[48]⟩] 9)
    exact drawn_below HRR.out h1 HO4.out

end My
end Go.Proofs.YtopijgkmgpkmnaaDoor
