/- How many parts a drawn rule has: the count ends. -/
import Derived.Test.YtjmlekhgnbbjoaaGreatDoorRulO
namespace Go.Proofs.YtjmlekhgnbbjoaaGreatDoor
open Go.RowKit Go.Deep
set_option linter.unusedVariables false
namespace My

theorem box_cell (w : World) (vs : Array Value) (t : TypeId) (i : Nat) : (w.alloc (.cells vs t)).cell? ⟨w.heap.size, i, none⟩ = vs[i]? := by
  have hb := blk_alloc_new w (.cells vs t)
  simp only [World.cell?, hb]
  rfl

/-- What is left of the parts. -/
def LeftPost (w : World) (e : Ending) (w' : World) : Prop := (∃ n : Int, e = .returned (.int .i64 n) ∧ -1 ≤ n ∧ n ≤ 30) ∧ Below w.heap.size w w'

set_option maxRecDepth 100000 in
set_option maxHeartbeats 4000000 in
theorem l4Parts_any (S : Nat → Option BK) : ∀ (d : Nat) (op num : Int) (s : ByteArray) (kids marks : Value) (dp lf : Int) (w : World), RuleC S d op num s kids marks → RowsIn S w → 0 ≤ dp → dp ≤ 100 → -1 ≤ lf → lf ≤ 30 →
    Calls Tryz.prog 92 #[.agg #[.int .i64 op, .int .i64 num, .string s, kids, marks], .int .i64 dp, .int .i64 lf] w (LeftPost w) := by
  intro d
  induction d using Nat.strongRecOn with
  | _ d ih =>
    intro op num s kids marks dp lf w h hr hd0 hd1 hl0 hl1
    have HB := Lib.hid (Below.refl w.heap.size w)
    have HP := Lib.hid (fun (w' : World) (hb : Below w.heap.size w w') => l4Plain_any w' h (hr.below hb))
    have HK : Hid (∃ (a : Option Addr) (n c : Nat), kids = .slice a n c ∧ n ≤ c ∧ n ≤ 4 ∧ (n = 0 ∨ ∃ g q, a = some ⟨g, 0, none⟩ ∧ S g = some (.rules q n) ∧ q < d)) := by
      rcases h with ⟨_, _, _, rfl, _⟩ | ⟨_, _, _, rfl, _⟩ | ⟨h1, h2, _, _, ⟨g, c, q, rfl, hc, hs, hq⟩, _⟩
      · exact ⟨none, 0, 0, rfl, by omega, by omega, Or.inl rfl⟩
      · exact ⟨none, 0, 0, rfl, by omega, by omega, Or.inl rfl⟩
      · refine ⟨_, _, c, rfl, hc, ?_, Or.inr ⟨g, q, rfl, hs, hq⟩⟩
        unfold kidsN
        split
        · omega
        · split
          · omega
          · split
            · omega
            · split <;> omega
    have HR := Lib.hid hr
    have HIH := Lib.hid ih
    clear h hr ih
    obtain ⟨a, n, c, rfl, hnc, hn4, hrow⟩ := HK.out
    have HROW := Lib.hid hrow
    clear HK hrow
    by_cases hl : lf - 1 < 0
    · go_enter Tryz.func92, Tryz.ntmps92
      go_wp2_with fail
      go_ret
      exact ⟨⟨_, rfl, by omega, by omega⟩, (by repeat (first | exact HB.out | exact Below.refl _ _ | apply below_drewN | apply Below.drew | refine Below.alloc ?_ (by have := HB.out.size; first | omega | (simp; done) | (simp; omega)) _))⟩
    · by_cases hdd : 6 < dp
      · go_enter Tryz.func92, Tryz.ntmps92
        go_wp2_with fail
        go_ret
        exact ⟨⟨_, rfl, by omega, by omega⟩, (by repeat (first | exact HB.out | exact Below.refl _ _ | apply below_drewN | apply Below.drew | refine Below.alloc ?_ (by have := HB.out.size; first | omega | (simp; done) | (simp; omega)) _))⟩
      · go_enter Tryz.func92, Tryz.ntmps92
        go_wp2_with (go_at_call 102; ((with_reducible refine (HP.out _ (by repeat (first | exact HB.out | exact Below.refl _ _ | apply below_drewN | apply Below.drew | refine Below.alloc ?_ (by have := HB.out.size; first | omega | (simp; done) | (simp; omega)) _))).mono ?_); rintro e wD ⟨⟨b, rfl⟩, hbb⟩; have hbc := bT (w := w) (by repeat (first | exact HB.out | exact Below.refl _ _ | apply below_drewN | apply Below.drew | refine Below.alloc ?_ (by have := HB.out.size; first | omega | (simp; done) | (simp; omega)) _)) hbb; have c3 := (hbb.cell (p := ⟨w.heap.size, 3, none⟩) (by simp)).trans (box_cell w _ _ 3); have hBlt : w.heap.size < wD.heap.size := Nat.lt_of_lt_of_le (by simp) hbb.size; clear hbb HB; have HB := Lib.hid hbc; clear hbc))
        · go_ret
          exact ⟨⟨_, rfl, by omega, by omega⟩, HB.out⟩
        · obtain rfl : b = true := by simpa using ‹(!b) = false›
          simp only [Bool.not_true]
          have c3 : wD.cell? ⟨w.heap.size, 3, none⟩ = some (.slice a n c) := c3
          obtain ⟨B, hB⟩ : ∃ B, B = w.heap.size := ⟨_, rfl⟩
          rw [← hB] at c3 hBlt ⊢
          have HRD := Lib.hid (HR.out.below HB.out)
          clear HP hB
          go_loopw [7, 8] (fun nv iv wr => ∃ (k : Nat) (z : Int), nv = .int .i64 z ∧ iv = .int .i64 k ∧ k ≤ n ∧ -1 ≤ z ∧ z ≤ 30 ∧ Below wD.heap.size wD wr) (fun _ iv _ => n - (intOf iv).toNat)
          case atStart => exact ⟨0, lf - 1, rfl, rfl, Nat.zero_le _, by omega, by omega, Below.refl _ _⟩
          case round =>
            obtain ⟨k, z, rfl, rfl, hk, hz0, hz1, hb⟩ := hrel
            obtain ⟨wo, rfl⟩ : ∃ wo, wo = wr := ⟨_, rfl⟩
            have HW := Lib.hid hb
            have d3 : wo.cell? ⟨B, 3, none⟩ = some (.slice a n c) := (hb.cell (p := ⟨B, 3, none⟩) hBlt).trans c3
            have HRO := Lib.hid (HRD.out.below hb)
            have hblo : B < wo.heap.size := Nat.lt_of_lt_of_le hBlt hb.size
            clear hb
            by_cases hkn : k < n
            · by_cases hz : 0 ≤ z
              · obtain ⟨g, q, rfl, hs, hq⟩ : ∃ g q, a = some ⟨g, 0, none⟩ ∧ S g = some (BK.rules q n) ∧ q < d := by
                  rcases HROW.out with h0 | h0
                  · omega
                  · exact h0
                obtain ⟨hglt, hrow⟩ := HRO.out g _ hs
                obtain ⟨op2, num2, s2, kids2, marks2, hc2, e0, e1, e2, e3, e4⟩ := hrow k hkn
                have HC := Lib.hid (HIH.out q hq op2 num2 s2 kids2 marks2 (dp + 1) z wo hc2 HRO.out (by omega) (by omega) hz0 hz1)
                clear hrow hc2
                go_wp2_with (go_at_call 92; ((with_reducible refine HC.out.mono ?_); rintro e wE ⟨⟨y, rfl, y0, y1⟩, hbb⟩; have hbc := bT HW.out (hbb.mono (Nat.le_refl _)); clear HW; have HW := Lib.hid hbc; clear hbc hbb))
                go_roundw
                case rel =>
                  exact ⟨k + 1, y, rfl, by go_num, by omega, y0, y1, HW.out⟩
                case measure => simp [intOf]; omega
              · go_wp2_with fail
                go_ret
                exact ⟨⟨_, rfl, hz0, hz1⟩, HB.out.trans (HW.out.mono HB.out.size)⟩
            · go_wp2_with fail
              go_ret
              exact ⟨⟨_, rfl, hz0, hz1⟩, HB.out.trans (HW.out.mono HB.out.size)⟩

end My
end Go.Proofs.YtjmlekhgnbbjoaaGreatDoor
