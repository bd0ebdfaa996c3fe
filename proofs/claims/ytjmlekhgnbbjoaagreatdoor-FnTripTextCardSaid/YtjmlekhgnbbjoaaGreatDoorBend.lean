/- The drawing function that bends a text. -/
import Derived.Test.YtjmlekhgnbbjoaaGreatDoorDrawV
import Derived.Deep.RegionWith
namespace Go.Proofs.YtjmlekhgnbbjoaaGreatDoor
open Go.RowKit Go.Deep
set_option linter.unusedVariables false
namespace My

theorem slice_to (s : ByteArray) (u : Nat) (h : u ≤ s.size) (wx : World) :
    (Instr.slice 9 (.string s) none (some (.int .i64 (u : Int))) none).run Tryz.prog wx = .ok (.string (s.extract 0 u)) wx := by
  have hj : (0 : Int) ≤ u ∧ (u : Int) ≤ (s.size : Int) := ⟨by omega, by omega⟩
  simp [Instr.slice, Instr.sliceBounds, Instr.sliceBound, asIntOf, run_underlying (Tryz.underlying9), h]
theorem slice_from (s : ByteArray) (u : Nat) (h : u ≤ s.size) (wx : World) :
    (Instr.slice 9 (.string s) (some (.int .i64 (u : Int))) none none).run Tryz.prog wx = .ok (.string (s.extract u s.size)) wx := by
  have hj : (0 : Int) ≤ u ∧ (u : Int) ≤ (s.size : Int) := ⟨by omega, by omega⟩
  simp [Instr.slice, Instr.sliceBounds, Instr.sliceBound, asIntOf, run_underlying (Tryz.underlying9), h]
set_option maxRecDepth 100000 in
set_option maxHeartbeats 2000000 in
theorem l14Bend_any {R K q cs : Nat} {w : World} {a : Option Addr} {len cap : Nat} (h : RdX w R K a len cap) (hK : K ≤ 100000000000) (s : ByteArray) (hs : s.size ≤ 30000000) (hq : q ≤ 6000) (g n c : Nat) (hn : 1 ≤ n) (hn1 : n ≤ 1000) (hc : n ≤ c) (hgR : g ≠ R) (hg : g < w.heap.size)
    (hall : ∀ i, i < n → ∃ v, w.cell? ⟨g, i, none⟩ = some v ∧ StrIn q v) (hcs : 1 ≤ cs) (hcs1 : cs ≤ 1000) :
    Calls Tryz.prog 12 #[.pointer (some ⟨R, 0, none⟩), .string s, .slice (some ⟨g, 0, none⟩) n c, .int .i64 cs] w fun e w' => ∃ t : ByteArray, e = .returned (.string t) ∧ t.size ≤ s.size + q ∧ Only R w w' := by
  have H := Lib.hid h
  have HA := Lib.hid hall
  clear h hall
  go_enter Tryz.func12, Tryz.ntmps12
  go_wp2_with fail
  refine (pick_atX (n := (cs : Int)) H.out (by omega) (by omega) (by omega)).mono ?_
  rintro e w1 ⟨x, rfl, x0, x1, hr, ho⟩
  have HR := Lib.hid hr
  have HO := Lib.hid ho
  clear hr ho
  by_cases hx : 0 < x
  · go_wp2_with fail
    go_ret
    exact ⟨s, rfl, by omega, HO.out⟩
  · have e0 : x = 0 := by omega
    subst e0
    have wr : IntKind.i64.wrap ((s.size : Int) + 1) = (s.size : Int) + 1 := IntWalk.i64_in _ (by omega)
    go_wp2_with fail
    refine (pick_atX (n := (s.size : Int) + 1) HR.out (by omega) (by omega) (by omega)).mono ?_
    rintro e w2 ⟨y, rfl, y0, y1, hr, ho⟩
    obtain ⟨u, rfl⟩ : ∃ u : Nat, y = u := ⟨y.toNat, by omega⟩
    have hu : u ≤ s.size := by omega
    have HO2 := Lib.hid (HO.out.trans ho)
    have HOF : Hid (Calls Tryz.prog 26 #[.pointer (some ⟨R, 0, none⟩), .slice (some ⟨g, 0, none⟩) n c] w2.drew fun e w' => ∃ t : ByteArray, e = .returned (.string t) ∧ t.size ≤ q ∧ Only R w w') := by
      refine (of_at (q := q) hr.drew (by omega) g n c hn hn1 hc hgR (by have := HO2.out.size; exact Nat.lt_of_lt_of_le hg this) ?_).mono ?_
      · intro i hi
        obtain ⟨v, hv, hsv⟩ := HA.out i hi
        refine ⟨v, ?_, hsv⟩
        exact (World.cell?_of_block (w := w) (HO2.out.block g hg (by simp; omega))).trans hv
      · rintro e w' ⟨t, rfl, ht, _, ho'⟩
        exact ⟨t, rfl, ht, (HO2.out.drew).trans ho'⟩
    have hx1 : (s.extract 0 u).size = u := by simp; omega
    have hx2 : (s.extract u s.size).size = s.size - u := by simp
    have HX1 := Lib.hid hx1
    have HX2 := Lib.hid hx2
    have lt1 : (s.extract 0 u).size ≤ 30000000 := by omega
    have lt2 : (s.extract u s.size).size ≤ 30000000 := by omega
    have hs1 := fun wx => slice_to s u hu wx
    have hs2 := fun wx => slice_from s u hu wx
    clear hr ho hx1 hx2 y0 y1
    obtain ⟨L, hL⟩ : ∃ L, L = s.extract 0 u := ⟨_, rfl⟩
    obtain ⟨M, hM⟩ : ∃ M, M = s.extract u s.size := ⟨_, rfl⟩
    rw [← hL] at hs1 HX1 lt1
    rw [← hM] at hs2 HX2 lt2
    clear hL hM
    go_wp2_with fail
    go_region_with (go_at_call 26; ((with_reducible refine HOF.out.mono ?_); rintro e w3 ⟨t, rfl, ht, ho3⟩; have z1 : ¬ 9223372036854775807 < L.size + t.size := (by omega); have z2 : ¬ 9223372036854775807 < L.size + t.size + M.size := (by omega); have HO3 := Lib.hid ho3; have HT := Lib.hid ht; clear ho3 ht))
    all_goals
      go_wp2_with fail
      go_ret
      refine ⟨_, rfl, ?_, HO3.out⟩
      have := HT.out
      have := HX1.out
      have := HX2.out
      simp only [ByteArray.size_append]
      omega

end My
end Go.Proofs.YtjmlekhgnbbjoaaGreatDoor
