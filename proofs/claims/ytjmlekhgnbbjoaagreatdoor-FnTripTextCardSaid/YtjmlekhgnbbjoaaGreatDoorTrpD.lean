/- The drawing functions of trips and of their texts. -/
import Derived.Test.YtjmlekhgnbbjoaaGreatDoorTrpW
import Derived.Test.YtjmlekhgnbbjoaaGreatDoorNetA
import Derived.Test.YtjmlekhgnbbjoaaGreatDoorTripW
import Derived.Test.YtjmlekhgnbbjoaaGreatDoorBend
namespace Go.Proofs.YtjmlekhgnbbjoaaGreatDoor
open Go.RowKit Go.Deep
set_option linter.unusedVariables false
namespace My

theorem SR.mono {w : World} {base base' n : Nat} {v : Value} (h : SR w base v n) (hb : base' ≤ base) : SR w base' v n := by
  obtain ⟨xs, hr, hx⟩ := h
  refine ⟨xs, ⟨hr.1, ?_⟩, hx⟩
  rcases hr.2 with h | ⟨g, c, cur, e, h1, h2⟩
  · exact Or.inl h
  · exact Or.inr ⟨g, c, cur, e, Nat.le_trans hb h1, h2⟩
theorem DS.noRows {w0 w : World} {S : Nat → Option BK} {R K : Nat} {a : Option Addr} {len cap : Nat} (h : DS w0 S R K a len cap [] w) : DS w0 noS R K a len cap [] w :=
  ⟨h.rd, h.on, fun b k hk => (by cases hk), h.far, h.lt, rfl, fun p hp => (by cases hp)⟩
/-- What DrawTripOk leaves. -/
def OkPost (wB : World) (e : Ending) (w' : World) : Prop :=
  ∃ (av : Option Addr) (nv cv : Nat) (a : Option Addr) (n c : Nat) (f : ByteArray) (s : Int), e = .returned (.tuple #[.slice av nv cv, .agg #[.slice a n c, .string f, .int .i64 s]]) ∧ n ≤ 10 ∧ f.size ≤ 10 ∧ SR w' wB.heap.size (.slice a n c) n ∧ Below wB.heap.size wB w'

set_option maxRecDepth 100000 in
set_option maxHeartbeats 1000000 in
theorem DrawTripOk_any (a : Option Addr) (len cap : Nat) (wB : World) (h : BytesIn wB a len cap) : Calls Tryz.prog 22 #[.slice a len cap] wB (OkPost wB) := by
  have hb0 := (Below.refl wB.heap.size wB).alloc (Nat.le_refl _) (.cells #[.slice none 0 0, .string ⟨#[]⟩, .int .i64 0] 26)
  have hT := blk_alloc_new wB (.cells #[.slice none 0 0, .string ⟨#[]⟩, .int .i64 0] 26)
  have HIN := Lib.hid (h.below hb0)
  have hszA : (wB.alloc (.cells #[.slice none 0 0, .string ⟨#[]⟩, .int .i64 0] 26)).heap.size = wB.heap.size + 1 := by simp
  have HB0 := Lib.hid hb0
  have HT := Lib.hid hT
  clear h hb0 hT
  go_enter Tryz.func22, Tryz.ntmps22
  go_upto_region 1 with fail
  obtain ⟨wA, hwA⟩ : ∃ wA, wA = wB.alloc (.cells #[.slice none 0 0, .string ⟨#[]⟩, .int .i64 0] 26) := ⟨_, rfl⟩
  rw [← hwA] at HIN hszA HB0 HT
  rw [← hwA]
  clear hwA
  obtain ⟨T, hTe⟩ : ∃ T, T = wB.heap.size := ⟨_, rfl⟩
  rw [← hTe] at HT hszA
  rw [← hTe]
  have HTE := Lib.hid hTe
  clear hTe
  go_wp2_with fail
  refine (l1Open_any _ _ _ _ HIN.out).mono ?_
  rintro e w1 ⟨rfl, hi, hb⟩
  obtain ⟨R, hR⟩ : ∃ R, R = wA.heap.size := ⟨_, rfl⟩
  rw [← hR] at hi ⊢
  have hRT : T < R := by rw [hR, hszA]; omega
  have hT1 : w1.heap[T]? = some (.cells #[.slice none 0 0, .string ⟨#[]⟩, .int .i64 0] 26 (0, 0)) := (hb.block T (by omega)).trans HT.out
  have HB1 := Lib.hid (bT HB0.out hb)
  obtain ⟨a1, len1, cap1, hx, hf⟩ := rdX_ofS hi
  have HD : Hid (DS w1 noS R 0 a1 len1 cap1 [] w1) := ⟨hx, Only.refl _ _, fun b k hk => (by cases hk), hf, hi.lt, rfl, fun p hp => (by cases hp)⟩
  have hR1 := hi.lt
  clear hi hb hx hf hR HIN HB0 HT hszA
  go_wp2_with fail
  refine (l14AnyNet_any (by omega) HD.out).mono ?_
  rintro e w2 ⟨g, n, c, rfl, hn1, hn6, hnc, hgw, hni, hds⟩
  have HNI := Lib.hid hni
  have HD2 := Lib.hid hds
  have HO2 := Lib.hid hds.on
  clear hni hds HD
  go_wp2_with fail
  refine (l14Fares_any (by omega) HD2.out.here).mono ?_
  rintro e w3 ⟨S', gf, m, cf, xs, rfl, hm1, hm3, hmore, hfs⟩
  have hgf := hfs.base.1
  have hs2 := HD2.out.on.size
  have hcf : m ≤ cf := by
    rcases hfs.row.2 with ⟨h', _⟩ | ⟨g2, c2, cur, h', _, _, h1, _⟩
    · simp at h'
    · simp only [Value.slice.injEq] at h'; omega
  have HFA := Lib.hid hfs.fareIn
  have HNI3 := Lib.hid (HNI.out.go hfs.ds.on (by omega))
  have HD3 := Lib.hid hfs.ds.here.noRows
  have HO3 := Lib.hid (HO2.out.trans hfs.ds.on)
  clear hfs hmore HNI HD2 HO2
  go_wp2_with fail
  refine (l14Trip_any (by omega) HD3.out HNI3.out hn1 hn6 hnc (by omega) HFA.out hm1 hm3 hcf (by omega)).mono ?_
  rintro e w4 ⟨v, n', f, s, rfl, hn', hf, hsr, hds⟩
  obtain ⟨a', c', F, rfl, -⟩ := hsr.inS
  have hO4 := HO3.out.trans hds.on
  have hs3 := HO3.out.size
  have hT4 : w4.heap[T]? = some (.cells #[.slice none 0 0, .string ⟨#[]⟩, .int .i64 0] 26 (0, 0)) := (hO4.block T (heap_lt hT1) (by simp; omega)).trans hT1
  have HB4 : Hid (Below wB.heap.size wB w4) := HB1.out.grown hO4 HB1.out.size (fun k hk => by have := HTE.out; cases hk; omega)
  have HSR := Lib.hid hsr
  have t0 := cell_of hT4 0
  have u0 := frozen_of hT4 0
  have t1 := cell_of hT4 1
  have u1 := frozen_of hT4 1
  have t2 := cell_of hT4 2
  have u2 := frozen_of hT4 2
  simp at t0 t1 t2
  have hTo : (Value.slice a' n' c').ownBlock ≠ some T := fun e => by
    obtain ⟨xs, hr, _⟩ := hsr
    have := (hr.lt _ e).1
    have := heap_lt hT1
    omega
  have hTB : wB.heap.size ≤ T := by have := HTE.out; omega
  have hw3 : wB.heap.size ≤ w3.heap.size := by have := HTE.out; omega
  clear hsr hds hO4 HO3 HD3 HFA HNI3 hT4
  go_wp2_with fail
  refine bodyPost_ret (v := .tuple #[.slice (some ⟨g, 0, none⟩) n c, .agg #[.slice a' n' c', .string f, .int .i64 s]]) (by simp [results, Tryz.results22, go_sem, t0, t1, t2]) rfl ⟨_, _, _, a', n', c', f, s, rfl, hn', hf, ?_, ?_⟩
  · exact (((HSR.out.set 0 _ hTo).set 1 _ hTo).set 2 _ hTo).mono hw3
  · exact ((HB4.out.setCell hTB _).setCell hTB _).setCell hTB _

/-- What DrawTripWrite leaves. -/
def TrWPost (wB : World) (e : Ending) (w' : World) : Prop :=
  ∃ (a : Option Addr) (n c : Nat) (f : ByteArray) (s : Int), e = .returned (.agg #[.slice a n c, .string f, .int .i64 s]) ∧ n ≤ 10 ∧ f.size ≤ 10 ∧ SR w' wB.heap.size (.slice a n c) n ∧ Below wB.heap.size wB w'

set_option maxRecDepth 100000 in
set_option maxHeartbeats 1000000 in
theorem DrawTripWrite_any (a : Option Addr) (len cap : Nat) (wB : World) (h : BytesIn wB a len cap) : Calls Tryz.prog 9 #[.slice a len cap] wB (TrWPost wB) := by
  have hb0 := (Below.refl wB.heap.size wB).alloc (Nat.le_refl _) (.cells #[.slice none 0 0, .string ⟨#[]⟩, .int .i64 0] 26)
  have hT := blk_alloc_new wB (.cells #[.slice none 0 0, .string ⟨#[]⟩, .int .i64 0] 26)
  have HIN := Lib.hid (h.below hb0)
  have hszA : (wB.alloc (.cells #[.slice none 0 0, .string ⟨#[]⟩, .int .i64 0] 26)).heap.size = wB.heap.size + 1 := by simp
  have HB0 := Lib.hid hb0
  have HT := Lib.hid hT
  clear h hb0 hT
  go_enter Tryz.func9, Tryz.ntmps9
  go_upto_region 1 with fail
  obtain ⟨wA, hwA⟩ : ∃ wA, wA = wB.alloc (.cells #[.slice none 0 0, .string ⟨#[]⟩, .int .i64 0] 26) := ⟨_, rfl⟩
  rw [← hwA] at HIN hszA HB0 HT
  rw [← hwA]
  clear hwA
  obtain ⟨T, hTe⟩ : ∃ T, T = wB.heap.size := ⟨_, rfl⟩
  rw [← hTe] at HT hszA
  rw [← hTe]
  have HTE := Lib.hid hTe
  clear hTe
  go_wp2_with fail
  refine (DrawTripOk_any _ _ _ _ HIN.out).mono ?_
  rintro e w1 ⟨av, nv, cv, a', n', c', f, s, rfl, hn', hf, hsr, hb⟩
  have hT1 : w1.heap[T]? = some (.cells #[.slice none 0 0, .string ⟨#[]⟩, .int .i64 0] 26 (0, 0)) := (hb.block T (by omega)).trans HT.out
  have HB1 := Lib.hid (bT HB0.out hb)
  have HSR := Lib.hid hsr
  clear hsr hb HB0 HT HIN
  go_upto_region 2 with fail
  have hT2 : (w1.alloc (.cells #[.slice a' n' c', .string f, .int .i64 s] 26)).heap[T]? = some (.cells #[.slice none 0 0, .string ⟨#[]⟩, .int .i64 0] 26 (0, 0)) := (blk_alloc_lt _ _ T (heap_lt hT1)).trans hT1
  have hU := blk_alloc_new w1 (.cells #[.slice a' n' c', .string f, .int .i64 s] 26)
  have hUT : T < w1.heap.size := heap_lt hT1
  have HS2 := Lib.hid (HSR.out.alloc (.cells #[.slice a' n' c', .string f, .int .i64 s] 26))
  have HB2 := Lib.hid (HB1.out.alloc HB1.out.size (.cells #[.slice a' n' c', .string f, .int .i64 s] 26))
  obtain ⟨w2, hw2⟩ : ∃ w2, w2 = w1.alloc (.cells #[.slice a' n' c', .string f, .int .i64 s] 26) := ⟨_, rfl⟩
  obtain ⟨U, hUe⟩ : ∃ U, U = w1.heap.size := ⟨_, rfl⟩
  rw [← hw2] at hT2 hU HS2 HB2
  rw [← hUe] at hU hUT
  rw [← hw2, ← hUe]
  have hU' : w2.heap[U]? = some (.cells #[.slice a' n' c', .string f, .int .i64 s] 26 (0, 0)) := hU
  have t0 := cell_of hT2 0
  have u0 := frozen_of hT2 0
  have t1 := cell_of hT2 1
  have u1 := frozen_of hT2 1
  have t2 := cell_of hT2 2
  have u2 := frozen_of hT2 2
  have y0 := cell_of hU' 0
  have y1 := cell_of hU' 1
  have y2 := cell_of hU' 2
  simp at t0 t1 t2 y0 y1 y2
  have hTo : (Value.slice a' n' c').ownBlock ≠ some T := fun e => by
    obtain ⟨xs, hr, _⟩ := HSR.out
    have := (hr.lt _ e).1
    omega
  have hTB : wB.heap.size ≤ T := by have := HTE.out; omega
  have hw3 : wB.heap.size ≤ wA.heap.size := by have := HTE.out; omega
  clear hw2 hUe HSR HB1 hT1 hT2 hU hU'
  go_wp2_with fail
  refine bodyPost_ret (v := .agg #[.slice a' n' c', .string f, .int .i64 s]) (by simp [results, Tryz.results9, go_sem, t0, t1, t2]) rfl ⟨a', n', c', f, s, rfl, hn', hf, ?_, ?_⟩
  · exact (((HS2.out.set 0 _ hTo).set 1 _ hTo).set 2 _ hTo).mono hw3
  · exact ((HB2.out.setCell hTB _).setCell hTB _).setCell hTB _

set_option maxRecDepth 100000 in
set_option maxHeartbeats 1000000 in
theorem DrawTripRead_any (a : Option Addr) (len cap : Nat) (wB : World) (h : BytesIn wB a len cap) :
    Calls Tryz.prog 4 #[.slice a len cap] wB fun e w' => ∃ t : ByteArray, e = .returned (.string t) ∧ t.size ≤ 1000 ∧ Below wB.heap.size wB w' := by
  have HIN := Lib.hid h
  go_enter Tryz.func4, Tryz.ntmps4
  go_wp2_with fail
  refine (l1Open_any _ _ _ _ h).mono ?_
  rintro e w ⟨rfl, hi, hb⟩
  obtain ⟨R, hR⟩ : ∃ R, R = wB.heap.size := ⟨_, rfl⟩
  rw [← hR] at hi ⊢
  have HRR := Lib.hid hR
  have HB := Lib.hid hb
  obtain ⟨a1, len1, cap1, hx, hf⟩ := rdX_ofS hi
  have HI := Lib.hid hx
  have hRlt := hi.lt
  clear h hi hb hR hx hf
  go_wp2_with fail
  refine (DrawTripWrite_any _ _ _ _ (HIN.out.below HB.out)).mono ?_
  rintro e w2 ⟨a', n', c', f, s, rfl, hn', hf, hsr, hb⟩
  have HB2 := Lib.hid (bT HB.out hb)
  have HR2 := Lib.hid (HI.out.below hb)
  obtain ⟨a2, c2, F, he, hnc, hcm, hin, hF⟩ := hsr.inS
  simp only [Value.slice.injEq, true_and] at he
  obtain ⟨rfl, rfl⟩ := he
  have HN := Lib.hid hin
  have HF := Lib.hid hF
  clear hsr hb hin hF
  go_wp2_with fail
  refine (sTripWrite_any _ n' _ f s F w2 HN.out (by omega) hnc (fun i hi => by have := HF.out i hi; omega) (by omega)).mono ?_
  rintro e w3 ⟨rfl, hb⟩
  have HB3 := Lib.hid (bT HB2.out hb)
  have HR3 := Lib.hid (HR2.out.below hb)
  have hsz : (txt (tripT F n' f s)).size ≤ 100 := by rw [txt_size]; exact tripT_size
  clear hb
  obtain ⟨P, hP⟩ : ∃ P, P = txt (tripT F n' f s) := ⟨_, rfl⟩
  rw [← hP] at hsz ⊢
  clear hP
  have hR3 : R < w3.heap.size := HR3.out.lt
  go_wp2_with fail
  refine (l14Bend_any (q := 1) (HR3.out.alloc) (by omega) P (by omega) (by omega) w3.heap.size 5 5 (by omega) (by omega) (by omega) (by omega) (by simp) ?_ (cs := 3) (by omega) (by omega)).mono ?_
  · intro i hi
    have hb := blk_alloc_new w3 (.cells #[.string ⟨#[47]⟩, .string ⟨#[45]⟩, .string ⟨#[120]⟩, .string ⟨#[48]⟩, .string ⟨#[49]⟩] 9)
    have : i = 0 ∨ i = 1 ∨ i = 2 ∨ i = 3 ∨ i = 4 := by omega
    rcases this with rfl | rfl | rfl | rfl | rfl
    all_goals
      refine ⟨_, by simp only [World.cell?, hb]; rfl, _, rfl, ?_⟩
      decide
  rintro e w4 ⟨t, rfl, ht, ho4⟩
  have HO4 := Lib.hid ho4
  clear ho4
  go_wp2_with fail
  go_ret
  refine ⟨t, rfl, by omega, ?_⟩
  have h1 := (HB3.out).alloc HB3.out.size (.cells #[.string ⟨#[47]⟩, .string ⟨#[45]⟩, .string ⟨#[120]⟩, .string ⟨#[48]⟩, .string ⟨#[49]⟩] 9)
  exact drawn_below HRR.out h1 HO4.out

end My
end Go.Proofs.YtjmlekhgnbbjoaaGreatDoor
