/- Drawn rules can be written: l4Write ends, and its text isn't long. -/
import Derived.Test.YtjmlekhgnbbjoaaGreatDoorRulQ
import Derived.Test.YtjmlekhgnbbjoaaGreatDoorRegT
import Derived.Deep.RegionWith
import Derived.Deep.CutRange
namespace Go.Proofs.YtjmlekhgnbbjoaaGreatDoor
open Go.RowKit Go.Deep
set_option linter.unusedVariables false
namespace My

theorem itoa_size (n : Int) (h0 : -9223372036854775807 ≤ n) (h1 : n ≤ 9223372036854775807) : (txt (Lib.itoa n)).size ≤ 20 := by
  have hd := dec_size n.natAbs (by omega)
  have he := dec_size n.toNat (by omega)
  rw [txt_size] at hd he ⊢
  by_cases h : n < 0
  · have e := Lib.itoa_neg n.natAbs (by omega)
    rw [show -(n.natAbs : Int) = n from by omega] at e
    rw [e]
    simp
    omega
  · have e2 : Lib.itoa n = Lib.decDigits n.toNat := by unfold Lib.itoa; rw [if_neg (by omega)]
    rw [e2]
    omega
theorem dec_end (n : Int) (w : World) (h : -1000000000000 ≤ n ∧ n ≤ 1000000000000) : Calls Tryz.prog 43 #[.int .i64 n] w fun e w' => ∃ t : ByteArray, e = .returned (.string t) ∧ t.size ≤ 20 ∧ Below w.heap.size w w' := by
  refine (l1Dec_any n w (by omega) (by omega)).mono ?_
  rintro e w' ⟨rfl, hb⟩
  exact ⟨_, rfl, itoa_size n (by omega) (by omega), hb⟩

def WordsIn (w : World) (g : Nat) : Prop := ∀ i, i < 11 → ∃ s : ByteArray, w.cell? ⟨g, i, none⟩ = some (.string s) ∧ s.size ≤ 5
theorem l4Words_any (w : World) : Calls Tryz.prog 93 #[] w fun e w' => e = .returned (.slice (some ⟨w.heap.size, 0, none⟩) 11 11) ∧ WordsIn w' w.heap.size ∧ Below w.heap.size w w' := by
  have hb := (Below.refl w.heap.size w).alloc (Nat.le_refl _)
  go_enter Tryz.func93, Tryz.ntmps93
  go_wp2_with fail
  go_ret
  refine ⟨rfl, ?_, hb _⟩
  intro i hi
  have : i = 0 ∨ i = 1 ∨ i = 2 ∨ i = 3 ∨ i = 4 ∨ i = 5 ∨ i = 6 ∨ i = 7 ∨ i = 8 ∨ i = 9 ∨ i = 10 := by omega
  rcases this with rfl | rfl | rfl | rfl | rfl | rfl | rfl | rfl | rfl | rfl | rfl
  all_goals
    refine ⟨_, (box_cell _ _ _ _).trans rfl, ?_⟩
    decide

theorem WordsIn.below {w w' : World} {g : Nat} (h : WordsIn w g) (hb : Below w.heap.size w w') (hg : g < w.heap.size) : WordsIn w' g := by
  intro i hi
  obtain ⟨s, hs, hz⟩ := h i hi
  exact ⟨s, (hb.cell (p := ⟨g, i, none⟩) hg).trans hs, hz⟩
theorem words_lt {w : World} {g : Nat} (h : WordsIn w g) : g < w.heap.size := by
  obtain ⟨s, hs, _⟩ := h 0 (by omega)
  exact World.block_lt_of_cell? w _ hs

/-- A text of at most q bytes. -/
def TextPost (q : Nat) (w : World) (e : Ending) (w' : World) : Prop := (∃ t : ByteArray, e = .returned (.string t) ∧ t.size ≤ q) ∧ Below w.heap.size w w'

def w6G (B : Nat) (op : Int) (d : Nat) (v : Value) (w : World) : Prop :=
  match d with
  | 17 => ∃ h, v = .slice (some ⟨h, 0, none⟩) 11 11 ∧ WordsIn w h ∧ h < w.heap.size
  | 20 => ∃ h, v = .pointer (some ⟨h, op.toNat, none⟩) ∧ WordsIn w h ∧ h < w.heap.size
  | 21 => ∃ t : ByteArray, v = .string t ∧ t.size ≤ 5
  | 22 => ∃ t : ByteArray, v = .string t ∧ t.size ≤ 6
  | 18 => v = .pointer (some ⟨B, 0, none⟩)
  | 19 => v = .int .i64 op
  | _ => True
theorem w6_stable (B : Nat) (op : Int) {d : Nat} {v : Value} {w w' : World} (hb : Below w.heap.size w w') (h : w6G B op d v w) : w6G B op d v w' := by
  unfold w6G at h ⊢
  split at h
  · obtain ⟨h, e, h1, h2⟩ := h; exact ⟨h, e, h1.below hb h2, Nat.lt_of_lt_of_le h2 hb.size⟩
  · obtain ⟨h, e, h1, h2⟩ := h; exact ⟨h, e, h1.below hb h2, Nat.lt_of_lt_of_le h2 hb.size⟩
  · exact h
  · exact h
  all_goals exact h

def w19G (T : ByteArray) (B g n c k : Nat) (x y : Int) (d : Nat) (v : Value) (w : World) : Prop :=
  match d with
  | 62 => ∃ t : ByteArray, v = .string t ∧ t.size ≤ 20
  | 71 => ∃ t : ByteArray, v = .string t ∧ t.size ≤ 20
  | 63 => ∃ t : ByteArray, v = .string t ∧ t.size ≤ T.size + 20
  | 64 => ∃ t : ByteArray, v = .string t ∧ t.size ≤ T.size + 21
  | 72 => ∃ t : ByteArray, v = .string t ∧ t.size ≤ T.size + 41
  | 55 => v = .string T
  | 56 | 65 => v = .pointer (some ⟨B, 4, none⟩)
  | 57 | 66 => v = .slice (some ⟨g, 0, none⟩) n c
  | 58 | 67 => v = .int .i64 (k : Int)
  | 59 | 60 | 68 => v = .pointer (some ⟨g, k * 2, none⟩)
  | 61 => v = .int .i64 x
  | 69 => v = .pointer (some ⟨g, k * 2 + 1, none⟩)
  | 70 => v = .int .i64 y
  | _ => True
theorem w19_stable (T : ByteArray) (B g n c k : Nat) (x y : Int) {d : Nat} {v : Value} {w w' : World}  (h : w19G T B g n c k x y d v w) : w19G T B g n c k x y d v w' := by
  unfold w19G at h ⊢
  split at h
  · exact h
  · exact h
  · exact h
  · exact h
  · exact h
  all_goals exact h

set_option maxRecDepth 100000 in
set_option maxHeartbeats 4000000 in
/-- A rule whose kids are written in at most M bytes each. -/
theorem l4Write_inner {S : Nat → Option BK} {M n c : Nat} {op : Int} {a : Option Addr} {marks : Value} (w : World) (h1 : 3 ≤ op) (h2 : op ≤ 10) (hM : M ≤ 100000000000000000) (hM4 : 400 ≤ M) (hn : n ≤ 4) (hnc : n ≤ c)
    (hk : ∀ k, k < n → ∃ g, a = some ⟨g, 0, none⟩ ∧ ∀ w', RowsIn S w' → g < w'.heap.size ∧ ∃ op num s kids marks, w'.cell? ⟨g, k * 5, none⟩ = some (.int .i64 op) ∧ w'.cell? ⟨g, k * 5 + 1, none⟩ = some (.int .i64 num) ∧ w'.cell? ⟨g, k * 5 + 2, none⟩ = some (.string s) ∧ w'.cell? ⟨g, k * 5 + 3, none⟩ = some kids ∧ w'.cell? ⟨g, k * 5 + 4, none⟩ = some marks ∧ Calls Tryz.prog 77 #[.agg #[.int .i64 op, .int .i64 num, .string s, kids, marks]] w' (TextPost M w'))
    (hm : MarkC S op marks) (hr : RowsIn S w) :
    Calls Tryz.prog 77 #[.agg #[.int .i64 op, .int .i64 0, .string ⟨#[]⟩, .slice a n c, marks]] w (TextPost (M * 5) w) := by
  have HK := Lib.hid hk
  have HR := Lib.hid hr
  have HMK : Hid (∃ (am : Option Addr) (nm cm : Nat), marks = .slice am nm cm ∧ nm ≤ cm ∧ nm ≤ 4 ∧ (nm = 0 ∨ ∃ g, am = some ⟨g, 0, none⟩ ∧ S g = some (.marks nm))) := by
    rcases hm with ⟨_, rfl⟩ | ⟨_, g, m, q, rfl, x1, x2, x3, x4⟩
    · exact ⟨none, 0, 0, rfl, by omega, by omega, Or.inl rfl⟩
    · exact ⟨_, m, q, rfl, x3, x2, Or.inr ⟨g, rfl, x4⟩⟩
  clear hk hr hm
  obtain ⟨am, nm, cm, rfl, hmc, hm4, hms⟩ := HMK.out
  have HMS := Lib.hid hms
  clear HMK hms
  obtain ⟨B, hB⟩ : ∃ B, B = w.heap.size := ⟨_, rfl⟩
  obtain ⟨w0, hw0⟩ : ∃ w0, w0 = w.alloc (.cells #[.int .i64 op, .int .i64 0, .string ⟨#[]⟩, .slice a n c, .slice am nm cm] 89) := ⟨_, rfl⟩
  have b0 : w0.cell? ⟨B, 0, none⟩ = some (.int .i64 op) := by rw [hw0, hB]; exact box_cell _ _ _ 0
  have b3 : w0.cell? ⟨B, 3, none⟩ = some (.slice a n c) := by rw [hw0, hB]; exact box_cell _ _ _ 3
  have b4 : w0.cell? ⟨B, 4, none⟩ = some (.slice am nm cm) := by rw [hw0, hB]; exact box_cell _ _ _ 4
  have hB0 : B < w0.heap.size := by rw [hw0, hB]; simp
  have HB0 : Hid (Below w.heap.size w w0) := by show Below w.heap.size w w0; rw [hw0]; exact (Below.refl _ _).alloc (Nat.le_refl _) _
  have HR0 := Lib.hid (HR.out.below HB0.out)
  have HBX : Hid (∀ wx, Below w0.heap.size w0 wx → wx.cell? ⟨B, 0, none⟩ = some (.int .i64 op) ∧ wx.cell? ⟨B, 3, none⟩ = some (.slice a n c) ∧ wx.cell? ⟨B, 4, none⟩ = some (.slice am nm cm) ∧ B < wx.heap.size) := fun wx hb => ⟨(hb.cell (p := ⟨B, 0, none⟩) hB0).trans b0, (hb.cell (p := ⟨B, 3, none⟩) hB0).trans b3, (hb.cell (p := ⟨B, 4, none⟩) hB0).trans b4, Nat.lt_of_lt_of_le hB0 hb.size⟩
  have o1 : (op == 1) = false := by simp; omega
  have o2 : (op == 2) = false := by simp; omega
  go_enter Tryz.func77, Tryz.ntmps77
  go_upto_region 6 with fail
  rw [← hB, ← hw0]
  clear hw0 b0 b3 b4 hB
  refine wp_region_tail 6 (by decide) (by kernel_rfl) [17, 18, 19, 20, 21, 22]
    (w6G B op) (fun n w' => Below w0.heap.size w0 w') (fun w w' => Below w.heap.size w w') (fun w => Below.refl _ _) (fun _ _ _ h k => bT h k) ?stable
    [17, 18, 19, 20, 21, 22, 3] (by kernel_rfl) (by kernel_rfl) (by kernel_rfl) ((Below.refl _ _).drew) ?step ?fin
  case stable => exact fun d v w w' hS hG => w6_stable _ _ hS hG
  case step =>
    refine ⟨?_, ?_, ?_, ?_, ?_, ?_, trivial⟩
    all_goals intro nq f wx hnq hI hS haf
    all_goals have HI := Lib.hid hI
    all_goals clear hI hS
    · simp [frameOf, goFrame]; go_simp; refine (l4Words_any wx).mono ?_; rintro e wy ⟨rfl, hw, hb⟩; exact ⟨bT HI.out hb, hb, wx.heap.size, rfl, hw, words_lt hw⟩
    · simp [frameOf, goFrame]; go_simp; exact ⟨HI.out, Below.refl _ _, rfl⟩
    · have h18 : f 18 = .pointer (some ⟨B, 0, none⟩) := (by first | exact haf.1 | exact haf.2.1 | exact haf.2.2.1 | exact haf.2.2.2.1 | exact haf.2.2.2.2.1 | exact haf.2.2.2.2.2.1 | exact haf.2.2.2.2.2.2.1 | exact haf.2.2.2.2.2.2.2.1 | exact haf.2.2.2.2.2.2.2.2.1); obtain ⟨q1, q2, q3, q4⟩ := HBX.out wx HI.out; simp [frameOf, goFrame, h18]; go_simp; exact ⟨HI.out, Below.refl _ _, rfl⟩
    · obtain ⟨g17, h17, i17, j17⟩ : ∃ h, f 17 = .slice (some ⟨h, 0, none⟩) 11 11 ∧ WordsIn wx h ∧ h < wx.heap.size := (by first | exact haf.1 | exact haf.2.1 | exact haf.2.2.1 | exact haf.2.2.2.1 | exact haf.2.2.2.2.1 | exact haf.2.2.2.2.2.1 | exact haf.2.2.2.2.2.2.1 | exact haf.2.2.2.2.2.2.2.1 | exact haf.2.2.2.2.2.2.2.2.1); have h19 : f 19 = .int .i64 op := (by first | exact haf.1 | exact haf.2.1 | exact haf.2.2.1 | exact haf.2.2.2.1 | exact haf.2.2.2.2.1 | exact haf.2.2.2.2.2.1 | exact haf.2.2.2.2.2.2.1 | exact haf.2.2.2.2.2.2.2.1 | exact haf.2.2.2.2.2.2.2.2.1); have yy : 0 ≤ op ∧ op < 11 := ⟨by omega, by omega⟩; simp [frameOf, goFrame, h17, h19]; go_simp; exact ⟨HI.out, Below.refl _ _, g17, rfl, i17, j17⟩
    · obtain ⟨g20, h20, i20, j20⟩ : ∃ h, f 20 = .pointer (some ⟨h, op.toNat, none⟩) ∧ WordsIn wx h ∧ h < wx.heap.size := (by first | exact haf.1 | exact haf.2.1 | exact haf.2.2.1 | exact haf.2.2.2.1 | exact haf.2.2.2.2.1 | exact haf.2.2.2.2.2.1 | exact haf.2.2.2.2.2.2.1 | exact haf.2.2.2.2.2.2.2.1 | exact haf.2.2.2.2.2.2.2.2.1); obtain ⟨s, cs, zs⟩ := i20 op.toNat (by omega); simp [frameOf, goFrame, h20]; go_simp; exact ⟨HI.out, Below.refl _ _, s, rfl, zs⟩
    · obtain ⟨t21, h21, z21⟩ : ∃ t : ByteArray, f 21 = .string t ∧ t.size ≤ 5 := (by first | exact haf.1 | exact haf.2.1 | exact haf.2.2.1 | exact haf.2.2.2.1 | exact haf.2.2.2.2.1 | exact haf.2.2.2.2.2.1 | exact haf.2.2.2.2.2.2.1 | exact haf.2.2.2.2.2.2.2.1 | exact haf.2.2.2.2.2.2.2.2.1); have zz : ¬ 9223372036854775807 < t21.size + 1 := (by omega); simp [frameOf, goFrame, h21]; go_simp; refine ⟨HI.out, Below.refl _ _, _, rfl, ?_⟩; rw [ByteArray.size_append]; show t21.size + 1 ≤ 6; omega
  case fin =>
    intro nq f wx hnq hI hS hG
    obtain ⟨t22, h22, z22⟩ : ∃ t : ByteArray, f 22 = .string t ∧ t.size ≤ 6 := hG 5 _ 22 (by decide) rfl rfl
    have HI := Lib.hid hI
    clear hG hS hnq hI
    have HB1 := Lib.hid (HB0.out.trans (HI.out.mono HB0.out.size))
    have HR1 := Lib.hid (HR0.out.below HI.out)
    obtain ⟨q0, q3, q4, hBw⟩ := HBX.out wx HI.out
    have HQ : Hid (∀ wy, Below wx.heap.size wx wy → wy.cell? ⟨B, 3, none⟩ = some (.slice a n c) ∧ wy.cell? ⟨B, 4, none⟩ = some (.slice am nm cm) ∧ B < wy.heap.size) := fun wy hb => ⟨(hb.cell (p := ⟨B, 3, none⟩) hBw).trans q3, (hb.cell (p := ⟨B, 4, none⟩) hBw).trans q4, Nat.lt_of_lt_of_le hBw hb.size⟩
    clear HBX HI HR0 HB0 q0
    change Oper.wp Tryz.prog _ _ _ (fun a' w' => TailOk Tryz.prog _ _ a' w') _
    simp [frameOf, goFrame, TailOk, h22]
    go_simp
    try simp only [TailOk, List.drop]
    generalize f 17 = f17
    generalize f 18 = f18
    generalize f 19 = f19
    generalize f 20 = f20
    generalize f 21 = f21
    clear h22 f HR hB0
    obtain ⟨w1, hw1⟩ : ∃ w1, w1 = wx := ⟨_, rfl⟩
    rw [← hw1] at HB1 HR1 HQ q3 q4 hBw ⊢
    clear hw1
    go_wp2_with fail
    go_loopw [3, 4] (fun o i wr => ∃ (T : ByteArray) (k : Nat), o = .string T ∧ i = .int .i64 k ∧ k ≤ n ∧ T.size ≤ 6 + k * (M + 1) ∧ Below w1.heap.size w1 wr) (fun _ i _ => n - (intOf i).toNat)
    case atStart => exact ⟨t22, 0, rfl, rfl, Nat.zero_le _, by simp; omega, Below.refl _ _⟩
    case round =>
      obtain ⟨T, k, rfl, rfl, hk, hT, hb⟩ := hrel
      obtain ⟨wo, rfl⟩ : ∃ wo, wo = wr := ⟨_, rfl⟩
      have HW := Lib.hid hb
      obtain ⟨q3, q4, hBo⟩ := HQ.out wo hb
      have HRO := Lib.hid (HR1.out.below hb)
      have hkM : k * (M + 1) ≤ 4 * (M + 1) := Nat.mul_le_mul_right _ (by omega)
      have hkS : (k + 1) * (M + 1) = k * (M + 1) + (M + 1) := by rw [Nat.add_mul, Nat.one_mul]
      have HKS := Lib.hid hkS
      have HT := Lib.hid hT
      have hTs : T.size ≤ 900000000000000000 := by omega
      clear hb hkS hkM hT
      by_cases hkn : k < n
      · obtain ⟨g, rfl, hg⟩ := HK.out k hkn
        obtain ⟨hglt, op2, num2, s2, kids2, marks2, e0, e1, e2, e3, e4, hcall⟩ := hg wo HRO.out
        have HC := Lib.hid hcall
        clear hg hcall
        by_cases hk0 : 0 < k
        · go_wp2_with (go_at_call 77; ((with_reducible refine HC.out.mono ?_); rintro e wE ⟨⟨y, rfl, hy⟩, hbb⟩; have z1 : ¬ 9223372036854775807 < T.size + 1 + y.size := (by omega); have HY := Lib.hid hy; have hbc := bT HW.out hbb; clear HW hy; have HW := Lib.hid hbc; clear hbc hbb))
          go_roundw
          case rel => exact ⟨_, k + 1, rfl, by go_num, hkn, by rw [HKS.out, ByteArray.size_append, ByteArray.size_append]; have := HT.out; have := HY.out; show T.size + 1 + y.size ≤ _; omega, HW.out⟩
          case measure => simp [intOf]; omega
        · go_wp2_with (go_at_call 77; ((with_reducible refine HC.out.mono ?_); rintro e wE ⟨⟨y, rfl, hy⟩, hbb⟩; have z1 : ¬ 9223372036854775807 < T.size + y.size := (by omega); have HY := Lib.hid hy; have hbc := bT HW.out hbb; clear HW hy; have HW := Lib.hid hbc; clear hbc hbb))
          go_roundw
          case rel => exact ⟨_, k + 1, rfl, by go_num, hkn, by rw [HKS.out, ByteArray.size_append]; have := HT.out; have := HY.out; omega, HW.out⟩
          case measure => simp [intOf]; omega
      · have hT1 : T.size ≤ 4 * M + 10 := by
          have := HT.out
          have e : k * (M + 1) ≤ 4 * (M + 1) := Nat.mul_le_mul_right _ (by omega)
          omega
        have HB2 := Lib.hid (HB1.out.trans (HW.out.mono HB1.out.size))
        have HQ2 : Hid (∀ wy, Below wo.heap.size wo wy → wy.cell? ⟨B, 4, none⟩ = some (.slice am nm cm) ∧ B < wy.heap.size) := fun wy hb => ⟨(hb.cell (p := ⟨B, 4, none⟩) hBo).trans q4, Nat.lt_of_lt_of_le hBo hb.size⟩
        clear HQ HR1 HT HKS HW HB1 HK hTs
        go_wp2_with fail
        obtain ⟨w2, hw2⟩ : ∃ w2, w2 = wo := ⟨_, rfl⟩
        rw [← hw2] at HB2 HRO HQ2 q3 q4 hBo ⊢
        clear hw2
        go_loopw [3, 5] (fun o i wr => ∃ (T : ByteArray) (k : Nat), o = .string T ∧ i = .int .i64 k ∧ k ≤ nm ∧ T.size ≤ 4 * M + 10 + k * 42 ∧ Below w2.heap.size w2 wr) (fun _ i _ => nm - (intOf i).toNat)
        case atStart => exact ⟨T, 0, rfl, rfl, Nat.zero_le _, by simp; omega, Below.refl _ _⟩
        case round =>
          obtain ⟨T, k, rfl, rfl, hk, hT, hb⟩ := hrel
          obtain ⟨wo, rfl⟩ : ∃ wo, wo = wr := ⟨_, rfl⟩
          have HW := Lib.hid hb
          obtain ⟨q4, hBo⟩ := HQ2.out wo hb
          have HRO2 := Lib.hid (HRO.out.below hb)
          have HT := Lib.hid hT
          have hTs : T.size ≤ 900000000000000000 := by omega
          clear hb hT
          by_cases hkn : k < nm
          · obtain ⟨g, rfl, hg⟩ : ∃ g, am = some ⟨g, 0, none⟩ ∧ S g = some (BK.marks nm) := by
              rcases HMS.out with h | h
              · omega
              · exact h
            obtain ⟨hglt, ms, hml, hma, hmb⟩ := HRO2.out g _ hg
            obtain ⟨x, hx⟩ : ∃ x, x = mF ms k := ⟨_, rfl⟩
            obtain ⟨y, hy⟩ : ∃ y, y = mP ms k := ⟨_, rfl⟩
            have hk2 := hmb k hkn
            have ex := hma.f k (by omega)
            have ey := hma.p k (by omega)
            rw [Nat.zero_add] at ex ey
            rw [← hx] at ex hk2
            rw [← hy] at ey hk2
            have hxb : -1000000000000 ≤ x ∧ x ≤ 1000000000000 := by omega
            have hyb : -1000000000000 ≤ y ∧ y ≤ 1000000000000 := by omega
            have HXB := Lib.hid hxb
            have HYB := Lib.hid hyb
            have HQ : Hid (∀ wx, Below wo.heap.size wo wx → wx.cell? ⟨B, 4, none⟩ = some (.slice (some ⟨g, 0, none⟩) nm cm) ∧ wx.cell? ⟨g, k * 2, none⟩ = some (.int .i64 x) ∧ wx.cell? ⟨g, k * 2 + 1, none⟩ = some (.int .i64 y)) := fun wx hb => ⟨(hb.cell (p := ⟨B, 4, none⟩) hBo).trans q4, (hb.cell (p := ⟨g, k * 2, none⟩) hglt).trans ex, (hb.cell (p := ⟨g, k * 2 + 1, none⟩) hglt).trans ey⟩
            clear hg hml hma hmb hx hy hk2 ex ey hxb hyb
            obtain ⟨b, hb⟩ : ∃ b, ((k : Int) == 0) = b := ⟨_, rfl⟩
            cases b
            all_goals
              go_upto_region 19 with fail
              (first
                | (obtain ⟨T2, hT2⟩ : ∃ T2, T2 = T ++ (⟨#[59]⟩ : ByteArray) := ⟨_, rfl⟩
                   rw [← hT2])
                | (obtain ⟨T2, hT2⟩ : ∃ T2, T2 = T ++ (⟨#[44]⟩ : ByteArray) := ⟨_, rfl⟩
                   rw [← hT2]))
              have z2 : T2.size = T.size + 1 := by rw [hT2, ByteArray.size_append]; rfl
              have zT : T2.size ≤ 900000000000000001 := by omega
              have HT2 := Lib.hid z2
              clear hT2 z2
              refine wp_region_tail 18 (by decide) (by kernel_rfl) [55, 56, 57, 58, 59, 60, 61, 62, 63, 64, 65, 66, 67, 68, 69, 70, 71, 72]
                (w19G T2 B g nm cm k x y) (fun n w' => Below wo.heap.size wo w') (fun w w' => Below w.heap.size w w') (fun w => Below.refl _ _) (fun _ _ _ h k => bT h k) ?stable
                [55, 56, 57, 58, 59, 60, 61, 62, 63, 64, 65, 66, 67, 68, 69, 70, 71, 72, 3] (by kernel_rfl) (by kernel_rfl) (by kernel_rfl) ((Below.refl _ _).drew) ?step ?fin
              case stable => exact fun d v w w' hS hG => w19_stable _ _ _ _ _ _ _ _  hG
              case step =>
                refine ⟨?_, ?_, ?_, ?_, ?_, ?_, ?_, ?_, ?_, ?_, ?_, ?_, ?_, ?_, ?_, ?_, ?_, ?_, trivial⟩
                all_goals intro nq f wx hnq hI hS haf
                all_goals have HI := Lib.hid hI
                all_goals clear hI hS
                · simp [frameOf, goFrame]; go_simp; exact ⟨HI.out, Below.refl _ _, rfl⟩
                · simp [frameOf, goFrame]; go_simp; exact ⟨HI.out, Below.refl _ _, rfl⟩
                · have h56 : f 56 = .pointer (some ⟨B, 4, none⟩) := (by first | exact haf.1 | exact haf.2.1 | exact haf.2.2.1 | exact haf.2.2.2.1 | exact haf.2.2.2.2.1 | exact haf.2.2.2.2.2.1 | exact haf.2.2.2.2.2.2.1 | exact haf.2.2.2.2.2.2.2.1 | exact haf.2.2.2.2.2.2.2.2.1); obtain ⟨q1, q2, q3⟩ := HQ.out wx HI.out; simp [frameOf, goFrame, h56]; go_simp; exact ⟨HI.out, Below.refl _ _, rfl⟩
                · simp [frameOf, goFrame]; go_simp; exact ⟨HI.out, Below.refl _ _, rfl⟩
                · have h57 : f 57 = .slice (some ⟨g, 0, none⟩) nm cm := (by first | exact haf.1 | exact haf.2.1 | exact haf.2.2.1 | exact haf.2.2.2.1 | exact haf.2.2.2.2.1 | exact haf.2.2.2.2.2.1 | exact haf.2.2.2.2.2.2.1 | exact haf.2.2.2.2.2.2.2.1 | exact haf.2.2.2.2.2.2.2.2.1); have h58 : f 58 = .int .i64 (k : Int) := (by first | exact haf.1 | exact haf.2.1 | exact haf.2.2.1 | exact haf.2.2.2.1 | exact haf.2.2.2.2.1 | exact haf.2.2.2.2.2.1 | exact haf.2.2.2.2.2.2.1 | exact haf.2.2.2.2.2.2.2.1 | exact haf.2.2.2.2.2.2.2.2.1); have yy : 0 ≤ (k : Int) ∧ (k : Int) < nm := ⟨by omega, by omega⟩; have tt : ((k : Int)).toNat = k := (by omega); simp [frameOf, goFrame, h57, h58]; go_simp; exact ⟨HI.out, Below.refl _ _, rfl⟩
                · have h59 : f 59 = .pointer (some ⟨g, k * 2, none⟩) := (by first | exact haf.1 | exact haf.2.1 | exact haf.2.2.1 | exact haf.2.2.2.1 | exact haf.2.2.2.2.1 | exact haf.2.2.2.2.2.1 | exact haf.2.2.2.2.2.2.1 | exact haf.2.2.2.2.2.2.2.1 | exact haf.2.2.2.2.2.2.2.2.1); simp [frameOf, goFrame, h59]; go_simp; exact ⟨HI.out, Below.refl _ _, rfl⟩
                · have h60 : f 60 = .pointer (some ⟨g, k * 2, none⟩) := (by first | exact haf.1 | exact haf.2.1 | exact haf.2.2.1 | exact haf.2.2.2.1 | exact haf.2.2.2.2.1 | exact haf.2.2.2.2.2.1 | exact haf.2.2.2.2.2.2.1 | exact haf.2.2.2.2.2.2.2.1 | exact haf.2.2.2.2.2.2.2.2.1); obtain ⟨q1, q2, q3⟩ := HQ.out wx HI.out; simp [frameOf, goFrame, h60]; go_simp; exact ⟨HI.out, Below.refl _ _, rfl⟩
                · have h61 : f 61 = .int .i64 x := (by first | exact haf.1 | exact haf.2.1 | exact haf.2.2.1 | exact haf.2.2.2.1 | exact haf.2.2.2.2.1 | exact haf.2.2.2.2.2.1 | exact haf.2.2.2.2.2.2.1 | exact haf.2.2.2.2.2.2.2.1 | exact haf.2.2.2.2.2.2.2.2.1); simp [frameOf, goFrame, h61]; go_simp; refine (dec_end x wx HXB.out).mono ?_; rintro e wy ⟨t, rfl, ht, hb⟩; exact ⟨bT HI.out hb, hb, t, rfl, ht⟩
                · have h55 : f 55 = .string T2 := (by first | exact haf.1 | exact haf.2.1 | exact haf.2.2.1 | exact haf.2.2.2.1 | exact haf.2.2.2.2.1 | exact haf.2.2.2.2.2.1 | exact haf.2.2.2.2.2.2.1 | exact haf.2.2.2.2.2.2.2.1 | exact haf.2.2.2.2.2.2.2.2.1); obtain ⟨t62, h62, z62⟩ : ∃ t : ByteArray, f 62 = .string t ∧ t.size ≤ 20 := (by first | exact haf.1 | exact haf.2.1 | exact haf.2.2.1 | exact haf.2.2.2.1 | exact haf.2.2.2.2.1 | exact haf.2.2.2.2.2.1 | exact haf.2.2.2.2.2.2.1 | exact haf.2.2.2.2.2.2.2.1 | exact haf.2.2.2.2.2.2.2.2.1); have zz : ¬ 9223372036854775807 < T2.size + t62.size := (by omega); simp [frameOf, goFrame, h55, h62]; go_simp; refine ⟨HI.out, Below.refl _ _, _, rfl, ?_⟩; rw [ByteArray.size_append]; omega
                · obtain ⟨t63, h63, z63⟩ : ∃ t : ByteArray, f 63 = .string t ∧ t.size ≤ T2.size + 20 := (by first | exact haf.1 | exact haf.2.1 | exact haf.2.2.1 | exact haf.2.2.2.1 | exact haf.2.2.2.2.1 | exact haf.2.2.2.2.2.1 | exact haf.2.2.2.2.2.2.1 | exact haf.2.2.2.2.2.2.2.1 | exact haf.2.2.2.2.2.2.2.2.1); have zz : ¬ 9223372036854775807 < t63.size + 1 := (by omega); simp [frameOf, goFrame, h63]; go_simp; refine ⟨HI.out, Below.refl _ _, _, rfl, ?_⟩; rw [ByteArray.size_append]; show t63.size + 1 ≤ T2.size + 21; omega
                · simp [frameOf, goFrame]; go_simp; exact ⟨HI.out, Below.refl _ _, rfl⟩
                · have h65 : f 65 = .pointer (some ⟨B, 4, none⟩) := (by first | exact haf.1 | exact haf.2.1 | exact haf.2.2.1 | exact haf.2.2.2.1 | exact haf.2.2.2.2.1 | exact haf.2.2.2.2.2.1 | exact haf.2.2.2.2.2.2.1 | exact haf.2.2.2.2.2.2.2.1 | exact haf.2.2.2.2.2.2.2.2.1); obtain ⟨q1, q2, q3⟩ := HQ.out wx HI.out; simp [frameOf, goFrame, h65]; go_simp; exact ⟨HI.out, Below.refl _ _, rfl⟩
                · simp [frameOf, goFrame]; go_simp; exact ⟨HI.out, Below.refl _ _, rfl⟩
                · have h66 : f 66 = .slice (some ⟨g, 0, none⟩) nm cm := (by first | exact haf.1 | exact haf.2.1 | exact haf.2.2.1 | exact haf.2.2.2.1 | exact haf.2.2.2.2.1 | exact haf.2.2.2.2.2.1 | exact haf.2.2.2.2.2.2.1 | exact haf.2.2.2.2.2.2.2.1 | exact haf.2.2.2.2.2.2.2.2.1); have h67 : f 67 = .int .i64 (k : Int) := (by first | exact haf.1 | exact haf.2.1 | exact haf.2.2.1 | exact haf.2.2.2.1 | exact haf.2.2.2.2.1 | exact haf.2.2.2.2.2.1 | exact haf.2.2.2.2.2.2.1 | exact haf.2.2.2.2.2.2.2.1 | exact haf.2.2.2.2.2.2.2.2.1); have yy : 0 ≤ (k : Int) ∧ (k : Int) < nm := ⟨by omega, by omega⟩; have tt : ((k : Int)).toNat = k := (by omega); simp [frameOf, goFrame, h66, h67]; go_simp; exact ⟨HI.out, Below.refl _ _, rfl⟩
                · have h68 : f 68 = .pointer (some ⟨g, k * 2, none⟩) := (by first | exact haf.1 | exact haf.2.1 | exact haf.2.2.1 | exact haf.2.2.2.1 | exact haf.2.2.2.2.1 | exact haf.2.2.2.2.2.1 | exact haf.2.2.2.2.2.2.1 | exact haf.2.2.2.2.2.2.2.1 | exact haf.2.2.2.2.2.2.2.2.1); simp [frameOf, goFrame, h68]; go_simp; exact ⟨HI.out, Below.refl _ _, rfl⟩
                · have h69 : f 69 = .pointer (some ⟨g, k * 2 + 1, none⟩) := (by first | exact haf.1 | exact haf.2.1 | exact haf.2.2.1 | exact haf.2.2.2.1 | exact haf.2.2.2.2.1 | exact haf.2.2.2.2.2.1 | exact haf.2.2.2.2.2.2.1 | exact haf.2.2.2.2.2.2.2.1 | exact haf.2.2.2.2.2.2.2.2.1); obtain ⟨q1, q2, q3⟩ := HQ.out wx HI.out; simp [frameOf, goFrame, h69]; go_simp; exact ⟨HI.out, Below.refl _ _, rfl⟩
                · have h70 : f 70 = .int .i64 y := (by first | exact haf.1 | exact haf.2.1 | exact haf.2.2.1 | exact haf.2.2.2.1 | exact haf.2.2.2.2.1 | exact haf.2.2.2.2.2.1 | exact haf.2.2.2.2.2.2.1 | exact haf.2.2.2.2.2.2.2.1 | exact haf.2.2.2.2.2.2.2.2.1); simp [frameOf, goFrame, h70]; go_simp; refine (dec_end y wx HYB.out).mono ?_; rintro e wy ⟨t, rfl, ht, hb⟩; exact ⟨bT HI.out hb, hb, t, rfl, ht⟩
                · obtain ⟨t64, h64, z64⟩ : ∃ t : ByteArray, f 64 = .string t ∧ t.size ≤ T2.size + 21 := (by first | exact haf.1 | exact haf.2.1 | exact haf.2.2.1 | exact haf.2.2.2.1 | exact haf.2.2.2.2.1 | exact haf.2.2.2.2.2.1 | exact haf.2.2.2.2.2.2.1 | exact haf.2.2.2.2.2.2.2.1 | exact haf.2.2.2.2.2.2.2.2.1); obtain ⟨t71, h71, z71⟩ : ∃ t : ByteArray, f 71 = .string t ∧ t.size ≤ 20 := (by first | exact haf.1 | exact haf.2.1 | exact haf.2.2.1 | exact haf.2.2.2.1 | exact haf.2.2.2.2.1 | exact haf.2.2.2.2.2.1 | exact haf.2.2.2.2.2.2.1 | exact haf.2.2.2.2.2.2.2.1 | exact haf.2.2.2.2.2.2.2.2.1); have zz : ¬ 9223372036854775807 < t64.size + t71.size := (by omega); simp [frameOf, goFrame, h64, h71]; go_simp; refine ⟨HI.out, Below.refl _ _, _, rfl, ?_⟩; rw [ByteArray.size_append]; omega
              case fin =>
                intro nq f wx hnq hI hS hG
                obtain ⟨t72, h72, z72⟩ : ∃ t : ByteArray, f 72 = .string t ∧ t.size ≤ T2.size + 41 := hG 17 _ 72 (by decide) rfl rfl
                have HI := Lib.hid hI
                clear hG hS hnq hI
                have HW3 := Lib.hid (bT HW.out HI.out)
                change Oper.wp Tryz.prog _ _ _ (fun a' w' => TailOk Tryz.prog _ _ a' w') _
                simp [frameOf, goFrame, TailOk, h72]
                go_simp
                try simp only [TailOk, List.drop]
                clear h72
                go_wp2_with fail
                go_roundw
                case rel => exact ⟨t72, k + 1, rfl, by go_num, hkn, by have := HT.out; have := HT2.out; omega, HW3.out⟩
                case measure => simp [intOf]; omega
          · have HB3 := Lib.hid (HB2.out.trans (HW.out.mono HB2.out.size))
            have hTf : T.size ≤ 4 * M + 178 := by have := HT.out; omega
            go_wp2_with fail
            go_ret
            exact ⟨⟨_, rfl, by rw [ByteArray.size_append]; show T.size + 1 ≤ _; omega⟩, HB3.out⟩

/-- How long the text is at most. -/
def wB : Nat → Nat
  | 0 => 400
  | d + 1 => wB d * 5
theorem wB_bd : ∀ d, d ≤ 20 → 400 ≤ wB d ∧ wB d ≤ 400 * 5 ^ 20
  | 0, _ => ⟨Nat.le_refl _, by decide⟩
  | d + 1, h => by
    have : ∀ k, wB k = 400 * 5 ^ k := by
      intro k
      induction k with
      | zero => rfl
      | succ k ih => show wB k * 5 = _; rw [ih, Nat.pow_succ, Nat.mul_assoc]
    rw [this]
    have h1 : 5 ^ (d + 1) ≤ 5 ^ 20 := Nat.pow_le_pow_right (by decide) h
    have h2 : 1 ≤ 5 ^ (d + 1) := Nat.one_le_pow _ _ (by decide)
    exact ⟨by omega, Nat.mul_le_mul_left _ h1⟩
theorem wB_mono : ∀ q d, q ≤ d → wB q ≤ wB d := by
  have : ∀ k, wB k = 400 * 5 ^ k := by
    intro k
    induction k with
    | zero => rfl
    | succ k ih => show wB k * 5 = _; rw [ih, Nat.pow_succ, Nat.mul_assoc]
  intro q d h
  rw [this, this]
  exact Nat.mul_le_mul_left _ (Nat.pow_le_pow_right (by decide) h)

set_option maxRecDepth 100000 in
set_option maxHeartbeats 4000000 in
theorem l4Write_any (S : Nat → Option BK) : ∀ (d : Nat) (op num : Int) (s : ByteArray) (kids marks : Value) (w : World), d ≤ 15 → RuleC S d op num s kids marks → RowsIn S w →
    Calls Tryz.prog 77 #[.agg #[.int .i64 op, .int .i64 num, .string s, kids, marks]] w (TextPost (wB d) w) := by
  intro d
  induction d using Nat.strongRecOn with
  | _ d ih =>
    intro op num s kids marks w hd h hr
    have h400 := (wB_bd d (by omega)).1
    have HB := Lib.hid (Below.refl w.heap.size w)
    rcases h with ⟨rfl, hnum, rfl, rfl, rfl⟩ | ⟨rfl, rfl, hs, rfl, rfl⟩ | ⟨h1, h2, rfl, rfl, ⟨g, c, q, rfl, hc, hs, hq⟩, hk⟩
    · have HD := Lib.hid (fun w => dec_end num w hnum)
      clear hnum ih
      go_enter Tryz.func77, Tryz.ntmps77
      go_wp2_with (go_at_call 43; ((with_reducible refine (HD.out _).mono ?_); rintro e wD ⟨t, rfl, ht, hbb⟩; have hbc := bT (w := w) (by repeat (first | exact HB.out | exact Below.refl _ _ | apply below_drewN | apply Below.drew | refine Below.alloc ?_ (by have := HB.out.size; first | omega | (simp; done) | (simp; omega)) _)) hbb; clear hbb HB; have HB := Lib.hid hbc; clear hbc))
      go_ret
      exact ⟨⟨t, rfl, by omega⟩, HB.out⟩
    · clear ih
      go_enter Tryz.func77, Tryz.ntmps77
      go_wp2_with fail
      go_ret
      exact ⟨⟨s, rfl, by omega⟩, (by repeat (first | exact HB.out | exact Below.refl _ _ | apply below_drewN | apply Below.drew | refine Below.alloc ?_ (by have := HB.out.size; first | omega | (simp; done) | (simp; omega)) _))⟩
    · obtain ⟨d, rfl⟩ : ∃ d', d = d' + 1 := ⟨d - 1, by omega⟩
      have hM := wB_bd d (by omega)
      have hn4 : kidsN op ≤ 4 := by
        unfold kidsN
        split
        · omega
        · split
          · omega
          · split
            · omega
            · split <;> omega
      refine l4Write_inner w h1 h2 (Nat.le_trans hM.2 (by decide)) hM.1 hn4 hc ?_ hk hr
      intro k hkn
      refine ⟨g, rfl, fun w' hr' => ?_⟩
      obtain ⟨hglt, hrow⟩ := hr' g _ hs
      obtain ⟨op2, num2, s2, kids2, marks2, hc2, e0, e1, e2, e3, e4⟩ := hrow k hkn
      refine ⟨hglt, op2, num2, s2, kids2, marks2, e0, e1, e2, e3, e4, ?_⟩
      refine (ih q (by omega) op2 num2 s2 kids2 marks2 w' (by omega) hc2 hr').mono ?_
      rintro e w2 ⟨⟨t, rfl, ht⟩, hb⟩
      exact ⟨⟨t, rfl, Nat.le_trans ht (wB_mono _ _ (by omega))⟩, hb⟩

end My
end Go.Proofs.YtjmlekhgnbbjoaaGreatDoor
