/- FnExactTripWrite: how its trip is opened; the walk. -/
import Derived.Test.YtopijgkmgpkmnaaDoorTripX
import Derived.Lib.SmallJoins
namespace Go.Proofs.YtopijgkmgpkmnaaDoor
open Go.RowKit Go.Deep
set_option linter.unusedVariables false
namespace My

structure TripZ where
  a : Option Addr
  n : Nat
  c : Nat
  f : ByteArray
  s : Int
  F : Nat → ByteArray
def val_Trip (z : TripZ) : Value := .agg #[.slice z.a z.n z.c, .string z.f, .int .i64 z.s]
structure TripIn (w : World) (z : TripZ) : Prop where
  legs : StrsIn w z.a z.n z.c z.F
  f : z.f.size ≤ 9223372036854775807
  s : (Lit.int .i64 z.s).wf = true

theorem strsIn_of {H : Type} {enc : TypeId × Value → H} {W : World} {fuel : Nat} {v : Value} {x : DataW H × List MemPlace}
    (hf : DataW.trod enc Tryd.prog W 0 (fun _ => true) true fuel 22 [v] = some x) : ∃ a n c F, v = .slice a n c ∧ StrsIn W a n c F := by
  rcases Go.ChangeShapes.open_strings Tryd.underlying22 Tryd.underlying9 (by kernel_rfl) hf with ⟨hcs, _⟩ | ⟨x, l, c, zs, hcs, _, hl, hm, hz, _, hcell, hwz⟩
  · simp at hcs
    exact ⟨none, 0, 0, fun _ => ⟨#[]⟩, hcs, Nat.le_refl _, by simp [maxLen], fun i hi => by omega, Or.inl rfl⟩
  · simp at hcs
    have hz' : zs.length = c := by simpa using hz
    refine ⟨some x, l, c, fun i => zs.getD i ByteArray.empty, hcs, hl, hm, ?_, ?_⟩
    · intro i hi
      have := hwz (zs.getD i ByteArray.empty) (by
        rw [List.getD_eq_getElem?_getD, List.getElem?_eq_getElem (by omega)]
        exact List.getElem_mem _)
      unfold maxLen at this
      omega
    · by_cases h0 : l = 0
      · exact Or.inl h0
      · obtain ⟨b, off, spot⟩ := x
        have hspot : spot = none := by simpa [Addr.add] using World.cell?_spot (hcell 0 (by omega))
        subst hspot
        have hb : b < W.heap.size := World.block_lt_of_cell? W _ (hcell 0 (by omega))
        refine Or.inr ⟨b, off, rfl, fun j hj => ?_, hb⟩
        have := hcell j (by omega)
        rwa [addr_addS] at this

set_option maxRecDepth 100000 in
/-- A trip that came in. -/
theorem openTrip {H : Type} {enc : TypeId × Value → H} {W : World} {base : Nat} {v : Value} {d : DataW H} {p : List MemPlace} (hv : Value.okWide Tryd.prog W .any base 34 v)
    (h : DataW.Trod enc Tryd.prog W 0 (fun _ => true) true 34 v d p) : ∃ z, v = val_Trip z ∧ TripIn W z := by
  obtain ⟨v0, v1, v2, y0, y1, y2, n, rfl, _, _, h0, h1, h2⟩ := Go.Joins.open_agg3 Tryd.underlying34 (by kernel_rfl) (by kernel_rfl) hv h
  obtain ⟨a, m, c, F, rfl, hs⟩ := strsIn_of h0
  obtain ⟨f, hf, _, hf2⟩ := DataW.trod_string Tryd.underlying9 h1
  obtain ⟨s, hs1, _, hs2⟩ := DataW.trod_int Tryd.underlying3 h2
  simp at hf hs1
  subst hf
  subst hs1
  exact ⟨⟨a, m, c, f, s, F⟩, rfl, hs, by unfold maxLen at hf2; omega, hs2⟩

set_option maxRecDepth 100000 in
set_option maxHeartbeats 2000000 in
theorem FnExactTripWrite_walk (z : TripZ) (w : World) (h : TripIn w z) (henv : Env3 w) :
    Calls Tryd.prog 6 #[val_Trip z] w fun e w' => e = .returned (.bool true) ∧ Below w.heap.size w w' := by
  obtain ⟨a, n, c, f, s, F⟩ := z
  obtain ⟨⟨hc, hmx, hF, hi⟩, hf, _⟩ := h
  change n ≤ c at hc
  change c ≤ maxLen at hmx
  change ∀ i, i < n → (F i).size ≤ _ at hF
  change InS w a n F at hi
  change f.size ≤ _ at hf
  unfold maxLen at hmx
  show Calls Tryd.prog 6 #[.agg #[.slice a n c, .string f, .int .i64 s]] w _
  have HE := Lib.hid (show EnvT w from henv)
  have hb0 := (Below.refl w.heap.size w).alloc (Nat.le_refl _) (.cells #[.slice a n c, .string f, .int .i64 s] 34)
  have HK := Lib.hid (fun w' (hb : Below w.heap.size w w') => hi.below hb (Nat.le_refl _))
  have HB0 := Lib.hid hb0
  have HSZ := Lib.hid (szTrip_any a n c f s F _ (hi.below hb0 (Nat.le_refl _)) (by omega) hc hF hf)
  obtain ⟨c0, c1, c2⟩ := boxed (w := w) (u := .slice a n c) (v := .string f) (x := .int .i64 s) (t := 34)
  have hwsz : w.heap.size < (w.alloc (.cells #[.slice a n c, .string f, .int .i64 s] 34)).heap.size := by simp
  have HF := Lib.hid hF
  clear hi hb0 henv hF
  go_enter Tryd.func6, Tryd.ntmps6
  go_wp2_with fail
  with_reducible refine HSZ.out.mono ?_
  rintro e w1 ⟨r, rfl, hr, hb⟩
  have d0 : w1.cell? ⟨w.heap.size, 0, none⟩ = some (.slice a n c) := (hb.cell (p := ⟨w.heap.size, 0, none⟩) hwsz).trans c0
  have d1 : w1.cell? ⟨w.heap.size, 1, none⟩ = some (.string f) := (hb.cell (p := ⟨w.heap.size, 1, none⟩) hwsz).trans c1
  have d2 : w1.cell? ⟨w.heap.size, 2, none⟩ = some (.int .i64 s) := (hb.cell (p := ⟨w.heap.size, 2, none⟩) hwsz).trans c2
  have hws1 : w.heap.size < w1.heap.size := Nat.lt_of_lt_of_le hwsz hb.size
  have HB1 := Lib.hid (bT HB0.out hb)
  have HR := Lib.hid hr
  clear hr hb c0 c1 c2 hwsz
  by_cases hneg : r < 0
  · go_wp2_with fail
    go_ret
    exact ⟨rfl, HB1.out⟩
  · have hre := HR.out (by omega)
    have hn : n ≤ 1048576 := by omega
    have hz : sumZ F n ≤ 1048576 := by omega
    have hf1 : f.size ≤ 1048576 := by omega
    have HF1 := Lib.hid (fun i (hi : i < n) => (show (F i).size ≤ 1048576 by have := sumZ_each (F := F) hi; omega))
    clear hre HR HSZ
    go_wp2_with fail
    refine (toTrip_any a n c f s F w1 (HK.out _ HB1.out) hn hc).mono ?_
    rintro e w2 ⟨g2, rfl, hg2, ho2, hb⟩
    have e0 : w2.cell? ⟨w.heap.size, 0, none⟩ = some (.slice a n c) := (hb.cell (p := ⟨w.heap.size, 0, none⟩) hws1).trans d0
    have e1 : w2.cell? ⟨w.heap.size, 1, none⟩ = some (.string f) := (hb.cell (p := ⟨w.heap.size, 1, none⟩) hws1).trans d1
    have e2 : w2.cell? ⟨w.heap.size, 2, none⟩ = some (.int .i64 s) := (hb.cell (p := ⟨w.heap.size, 2, none⟩) hws1).trans d2
    have hws2 : w.heap.size < w2.heap.size := Nat.lt_of_lt_of_le hws1 hb.size
    have HB2 := Lib.hid (bT HB1.out hb)
    have HO2 := Lib.hid ho2
    clear ho2 hb d0 d1 d2
    go_wp2_with fail
    refine (sTripWrite_any _ n n f s F w2 HO2.out.inS hn (Nat.le_refl _) HF1.out hf1).mono ?_
    rintro e w3 ⟨rfl, hb⟩
    have d0 : w3.cell? ⟨w.heap.size, 0, none⟩ = some (.slice a n c) := (hb.cell (p := ⟨w.heap.size, 0, none⟩) hws2).trans e0
    have d1 : w3.cell? ⟨w.heap.size, 1, none⟩ = some (.string f) := (hb.cell (p := ⟨w.heap.size, 1, none⟩) hws2).trans e1
    have d2 : w3.cell? ⟨w.heap.size, 2, none⟩ = some (.int .i64 s) := (hb.cell (p := ⟨w.heap.size, 2, none⟩) hws2).trans e2
    have hws3 : w.heap.size < w3.heap.size := Nat.lt_of_lt_of_le hws2 hb.size
    have HB3 := Lib.hid (bT HB2.out hb)
    clear hb e0 e1 e2
    go_wp2_with fail
    refine (toTrip_any a n c f s F w3 (HK.out _ HB3.out) hn hc).mono ?_
    rintro e w4 ⟨g4, rfl, hg4, ho4, hb⟩
    have e0 : w4.cell? ⟨w.heap.size, 0, none⟩ = some (.slice a n c) := (hb.cell (p := ⟨w.heap.size, 0, none⟩) hws3).trans d0
    have e1 : w4.cell? ⟨w.heap.size, 1, none⟩ = some (.string f) := (hb.cell (p := ⟨w.heap.size, 1, none⟩) hws3).trans d1
    have e2 : w4.cell? ⟨w.heap.size, 2, none⟩ = some (.int .i64 s) := (hb.cell (p := ⟨w.heap.size, 2, none⟩) hws3).trans d2
    have hws4 : w.heap.size < w4.heap.size := Nat.lt_of_lt_of_le hws3 hb.size
    have HB4 := Lib.hid (bT HB3.out hb)
    have HO4 := Lib.hid ho4
    clear ho4 hb d0 d1 d2
    go_wp2_with fail
    have hb5 := (Below.refl w4.heap.size w4).alloc (Nat.le_refl _) (.cells #[.slice (some ⟨g4, 0, none⟩) n n, .string f, .int .i64 s] 37)
    obtain ⟨y0, y1, y2⟩ := boxed (w := w4) (u := .slice (some ⟨g4, 0, none⟩) n n) (v := .string f) (x := .int .i64 s) (t := 37)
    have hzs : w4.heap.size < (w4.alloc (.cells #[.slice (some ⟨g4, 0, none⟩) n n, .string f, .int .i64 s] 37)).heap.size := by simp
    have hzo : w.heap.size < (w4.alloc (.cells #[.slice (some ⟨g4, 0, none⟩) n n, .string f, .int .i64 s] 37)).heap.size := by simp; omega
    have d0 := (hb5.cell (p := ⟨w.heap.size, 0, none⟩) hws4).trans e0
    have d1 := (hb5.cell (p := ⟨w.heap.size, 1, none⟩) hws4).trans e1
    have d2 := (hb5.cell (p := ⟨w.heap.size, 2, none⟩) hws4).trans e2
    have HB5 := Lib.hid (bT HB4.out hb5)
    have HO5 := Lib.hid (HO4.out.below hb5 (Nat.le_refl _))
    refine (iTripWrite_any _ n n f s F _ HO5.out.inS hn (Nat.le_refl _) (by omega) HF1.out hf1 (HE.out.below HB5.out)).mono ?_
    rintro e w6 ⟨rfl, hb⟩
    have q0 : w6.cell? ⟨w4.heap.size, 0, none⟩ = some (.slice (some ⟨g4, 0, none⟩) n n) := (hb.cell (p := ⟨w4.heap.size, 0, none⟩) hzs).trans y0
    have q1 : w6.cell? ⟨w4.heap.size, 1, none⟩ = some (.string f) := (hb.cell (p := ⟨w4.heap.size, 1, none⟩) hzs).trans y1
    have q2 : w6.cell? ⟨w4.heap.size, 2, none⟩ = some (.int .i64 s) := (hb.cell (p := ⟨w4.heap.size, 2, none⟩) hzs).trans y2
    have p0 : w6.cell? ⟨w.heap.size, 0, none⟩ = some (.slice a n c) := (hb.cell (p := ⟨w.heap.size, 0, none⟩) hzo).trans d0
    have p1 : w6.cell? ⟨w.heap.size, 1, none⟩ = some (.string f) := (hb.cell (p := ⟨w.heap.size, 1, none⟩) hzo).trans d1
    have p2 : w6.cell? ⟨w.heap.size, 2, none⟩ = some (.int .i64 s) := (hb.cell (p := ⟨w.heap.size, 2, none⟩) hzo).trans d2
    have hzs6 : w4.heap.size < w6.heap.size := Nat.lt_of_lt_of_le hzs hb.size
    have HB6 := Lib.hid (bT HB5.out hb)
    have HO6 := Lib.hid (HO5.out.below hb (Nat.le_refl _))
    clear hb hb5 y0 y1 y2 hzs hzo d0 d1 d2 e0 e1 e2
    go_wp2_with fail
    go_region_with (first | (go_at_call 22; ((with_reducible refine (toTrip_any a n c f s F _ (HK.out _ HB6.out.drew) hn hc).mono ?_); rintro e w7 ⟨g7, rfl, hg7, ho7, hb⟩; have r0 : w7.cell? ⟨w4.heap.size, 0, none⟩ = some (.slice (some ⟨g4, 0, none⟩) n n) := (hb.cell (p := ⟨w4.heap.size, 0, none⟩) hzs6).trans q0; have r1 : w7.cell? ⟨w4.heap.size, 1, none⟩ = some (.string f) := (hb.cell (p := ⟨w4.heap.size, 1, none⟩) hzs6).trans q1; have r2 : w7.cell? ⟨w4.heap.size, 2, none⟩ = some (.int .i64 s) := (hb.cell (p := ⟨w4.heap.size, 2, none⟩) hzs6).trans q2; have HB7 := Lib.hid (bT HB6.out.drew hb); have HO7 := Lib.hid ho7; have HP7 := Lib.hid ((HO6.out.of_block (w' := w6.drew) rfl).below hb (Nat.le_refl _)); clear hb ho7)) | (go_at_call 24; ((with_reducible refine (eqTrip_same _ _ n n n f s F _ HP7.out.inS HO7.out.inS hn (Nat.le_refl _) (Nat.le_refl _)).mono ?_); rintro e w8 ⟨rfl, hb⟩; have HB8 := Lib.hid (bT HB7.out hb); clear hb)))
    all_goals
      go_wp2_with fail
      go_ret
      exact ⟨rfl, HB8.out⟩

end My
end Go.Proofs.YtopijgkmgpkmnaaDoor
