/- RuleOk and RuleWrite of drawn rules end. -/
import Derived.Test.YtjmlekhgnbbjoaaGreatDoorRulW
namespace Go.Proofs.YtjmlekhgnbbjoaaGreatDoor
open Go.RowKit Go.Deep
set_option linter.unusedVariables false
namespace My

theorem rule_box (w : World) (op num : Int) (s : ByteArray) (kids marks : Value) :
    let w' := w.alloc (.cells #[.int .i64 op, .int .i64 num, .string s, kids, marks] 89)
    w'.cell? ⟨w.heap.size, 0, none⟩ = some (.int .i64 op) ∧ w'.cell? ⟨w.heap.size, 1, none⟩ = some (.int .i64 num) ∧ w'.cell? ⟨w.heap.size, 2, none⟩ = some (.string s) ∧ w'.cell? ⟨w.heap.size, 3, none⟩ = some kids ∧ w'.cell? ⟨w.heap.size, 4, none⟩ = some marks :=
  ⟨box_cell _ _ _ 0, box_cell _ _ _ 1, box_cell _ _ _ 2, box_cell _ _ _ 3, box_cell _ _ _ 4⟩
theorem cells5 {w w' : World} {B : Nat} {a b c d e : Value} (hb : Below w.heap.size w w') (hB : B < w.heap.size)
    (h : w.cell? ⟨B, 0, none⟩ = some a ∧ w.cell? ⟨B, 1, none⟩ = some b ∧ w.cell? ⟨B, 2, none⟩ = some c ∧ w.cell? ⟨B, 3, none⟩ = some d ∧ w.cell? ⟨B, 4, none⟩ = some e) :
    w'.cell? ⟨B, 0, none⟩ = some a ∧ w'.cell? ⟨B, 1, none⟩ = some b ∧ w'.cell? ⟨B, 2, none⟩ = some c ∧ w'.cell? ⟨B, 3, none⟩ = some d ∧ w'.cell? ⟨B, 4, none⟩ = some e :=
  ⟨(hb.cell (p := ⟨B, 0, none⟩) hB).trans h.1, (hb.cell (p := ⟨B, 1, none⟩) hB).trans h.2.1, (hb.cell (p := ⟨B, 2, none⟩) hB).trans h.2.2.1, (hb.cell (p := ⟨B, 3, none⟩) hB).trans h.2.2.2.1, (hb.cell (p := ⟨B, 4, none⟩) hB).trans h.2.2.2.2⟩

set_option maxRecDepth 100000 in
set_option maxHeartbeats 4000000 in
theorem RuleOk_any {S : Nat → Option BK} {d : Nat} {op num : Int} {s : ByteArray} {kids marks : Value} (w : World) (hd : d ≤ 15) (h : RuleC S d op num s kids marks) (hr : RowsIn S w) :
    Calls Tryz.prog 76 #[.agg #[.int .i64 op, .int .i64 num, .string s, kids, marks]] w (BoolPost w) := by
  obtain ⟨w0, hw0⟩ : ∃ w0, w0 = w.alloc (.cells #[.int .i64 op, .int .i64 num, .string s, kids, marks] 89) := ⟨_, rfl⟩
  obtain ⟨B, hB⟩ : ∃ B, B = w.heap.size := ⟨_, rfl⟩
  have hbx := rule_box w op num s kids marks
  have hB0 : B < w0.heap.size := by rw [hw0, hB]; simp
  have HB0 : Hid (Below w.heap.size w w0) := by show Below w.heap.size w w0; rw [hw0]; exact (Below.refl _ _).alloc (Nat.le_refl _) _
  simp only [← hw0, ← hB] at hbx
  have HBX := Lib.hid hbx
  have HR := Lib.hid (hr.below HB0.out)
  have H := Lib.hid h
  obtain ⟨c0, c1, c2, c3, c4⟩ := hbx
  clear h hr
  go_enter Tryz.func76, Tryz.ntmps76
  go_upto_region 1 with fail
  rw [← hw0, ← hB]
  clear hw0 hB
  go_wp2_with (first | (go_at_call 92; ((with_reducible refine (l4Parts_any S d op num s kids marks 1 30 _ H.out HR.out (by omega) (by omega) (by omega) (by omega)).mono ?_); rintro e w1 ⟨⟨z, rfl, z0, z1⟩, hb⟩; obtain ⟨d0, d1, d2, d3, d4⟩ := cells5 hb hB0 HBX.out; have HB1 := Lib.hid (HB0.out.trans (hb.mono HB0.out.size)); have HR1 := Lib.hid (HR.out.below hb); clear hb)) | (go_at_call 77; ((with_reducible refine (l4Write_any S d op num s kids marks _ hd H.out HR1.out).mono ?_); rintro e w2 ⟨⟨t, rfl, ht⟩, hb⟩; have HB2 := Lib.hid (HB1.out.trans (hb.mono HB1.out.size)); clear hb ht)))
  all_goals
    go_ret
    exact ⟨⟨_, rfl⟩, by first | exact HB2.out | exact HB1.out⟩

set_option maxRecDepth 100000 in
set_option maxHeartbeats 4000000 in
theorem RuleWrite_any {S : Nat → Option BK} {d : Nat} {op num : Int} {s : ByteArray} {kids marks : Value} (w : World) (hd : d ≤ 15) (h : RuleC S d op num s kids marks) (hr : RowsIn S w) :
    Calls Tryz.prog 56 #[.agg #[.int .i64 op, .int .i64 num, .string s, kids, marks]] w (TextPost (wB d) w) := by
  obtain ⟨w0, hw0⟩ : ∃ w0, w0 = w.alloc (.cells #[.int .i64 op, .int .i64 num, .string s, kids, marks] 89) := ⟨_, rfl⟩
  obtain ⟨B, hB⟩ : ∃ B, B = w.heap.size := ⟨_, rfl⟩
  have hbx := rule_box w op num s kids marks
  have hB0 : B < w0.heap.size := by rw [hw0, hB]; simp
  have HB0 : Hid (Below w.heap.size w w0) := by show Below w.heap.size w w0; rw [hw0]; exact (Below.refl _ _).alloc (Nat.le_refl _) _
  simp only [← hw0, ← hB] at hbx
  have HBX := Lib.hid hbx
  have HR := Lib.hid (hr.below HB0.out)
  have H := Lib.hid h
  obtain ⟨c0, c1, c2, c3, c4⟩ := hbx
  clear h hr
  go_enter Tryz.func56, Tryz.ntmps56
  go_upto_region 1 with fail
  rw [← hw0, ← hB]
  clear hw0 hB
  go_wp2_with (first | (go_at_call 76; ((with_reducible refine (RuleOk_any _ hd H.out HR.out).mono ?_); rintro e w1 ⟨⟨b, rfl⟩, hb⟩; obtain ⟨d0, d1, d2, d3, d4⟩ := cells5 hb hB0 HBX.out; have HB1 := Lib.hid (HB0.out.trans (hb.mono HB0.out.size)); have HR1 := Lib.hid (HR.out.below hb); clear hb)) | (go_at_call 77; ((with_reducible refine (l4Write_any S d op num s kids marks _ hd H.out HR1.out).mono ?_); rintro e w2 ⟨⟨t, rfl, ht⟩, hb⟩; have HB2 := Lib.hid (HB1.out.trans (hb.mono HB1.out.size)); have HT := Lib.hid ht; clear hb ht)))
  all_goals
    go_ret
    first
      | exact ⟨⟨_, rfl, HT.out⟩, HB2.out⟩
      | exact ⟨⟨_, rfl, Nat.zero_le _⟩, HB1.out⟩

end My
end Go.Proofs.YtjmlekhgnbbjoaaGreatDoor
