/- SHA-256: the plain model; words of a block. -/
import Derived.Test.YtabpkabeabemmaaDoorHashB
import Derived.Test.YtabpkabeabemmaaDoorRegT
import Derived.Deep.OwnRows
import Derived.Deep.AppendLies
import Derived.OwnWalk
import Derived.Lib.Hide
namespace Go.Proofs.YtabpkabeabemmaaDoor
open Go.RowKit Go.Deep
set_option linter.unusedVariables false
namespace My

def sg0 (x : Int) : Int := bits .xor .u32 (bits .xor .u32 (rotN 7 x) (rotN 18 x)) (x / 8)
def sg1 (x : Int) : Int := bits .xor .u32 (bits .xor .u32 (rotN 17 x) (rotN 19 x)) (x / 1024)
def word4 (B : Nat → Int) (k : Nat) : Int :=
  bits .or .u32 (bits .or .u32 (bits .or .u32 (B (4 * k) * 16777216 % 4294967296) (B (4 * k + 1) * 65536 % 4294967296)) (B (4 * k + 2) * 256 % 4294967296)) (B (4 * k + 3))
def setU (F : Nat → Int) (i : Nat) (v : Int) (j : Nat) : Int := if j = i then v else F j
def add32 (a b : Int) : Int := (a + b) % 4294967296
def nxtW (F : Nat → Int) (i : Nat) : Int := add32 (add32 (add32 (F (i - 16)) (sg0 (F (i - 15)))) (F (i - 7))) (sg1 (F (i - 2)))
def sched (F : Nat → Int) : Nat → Nat → Int
  | 0 => F
  | m + 1 => setU (sched F m) (16 + m) (nxtW (sched F m) (16 + m))
def W32 (x : Int) : Prop := 0 ≤ x ∧ x ≤ 4294967295
def uCells (F : Nat → Int) (n : Nat) : List Value := (List.range n).map fun i => .int .u32 (F i)
theorem uCells_succ (F : Nat → Int) (n : Nat) : uCells F (n + 1) = uCells F n ++ [.int .u32 (F n)] := by simp [uCells, List.range_succ]
theorem uCells_congr {F G : Nat → Int} {n : Nat} (h : ∀ i, i < n → F i = G i) : uCells F n = uCells G n := by
  unfold uCells
  exact List.map_congr_left fun i hi => by rw [h i (List.mem_range.1 hi)]

/-- 64 bytes in a row of cells. -/
structure BytesAt (w : World) (gb off n : Nat) (B : Nat → Int) : Prop where
  c : ∀ j, j < n → w.cell? ⟨gb, off + j, none⟩ = some (.int .u8 (B j))
  lo : ∀ j, 0 ≤ B j
  hi : ∀ j, B j ≤ 255
  lt : gb < w.heap.size
theorem BytesAt.below {w w' : World} {gb off n : Nat} {B : Nat → Int} (h : BytesAt w gb off n B) (hb : Below w.heap.size w w') : BytesAt w' gb off n B :=
  ⟨fun j hj => (hb.cell (p := ⟨gb, off + j, none⟩) h.lt).trans (h.c j hj), h.lo, h.hi, Nat.lt_of_lt_of_le h.lt hb.size⟩
theorem bT {w w1 w2 : World} {B : Nat} (h : Below B w w1) (k : Below w1.heap.size w1 w2) (hB : B ≤ w1.heap.size) : Below B w w2 := h.trans (k.mono hB)

def wd5G (B : Nat → Int) (l : Value) (base gb off cb k : Nat) (d : Nat) (v : Value) (w : World) : Prop :=
  match d with
  | 49 => ∃ h, v = .slice (some ⟨h, 0, none⟩) 1 1 ∧ base ≤ h ∧ w.heap[h]? = some (.cells #[.int .u32 (word4 B k)] 29 (0, 0))
  | 15 => v = l
  | 16 | 23 | 32 | 41 => v = .slice (some ⟨gb, off, none⟩) 64 cb
  | 17 | 24 | 33 | 42 => v = .int .i64 (k : Int)
  | 18 | 25 | 34 | 43 => v = .int .i64 (4 * (k : Int))
  | 19 => v = .pointer (some ⟨gb, off + (4 * k), none⟩)
  | 20 => v = .int .u8 (B (4 * k))
  | 21 => v = .int .u32 (B (4 * k))
  | 22 => v = .int .u32 (B (4 * k) * 16777216 % 4294967296)
  | 26 => v = .int .i64 (4 * (k : Int) + 1)
  | 27 => v = .pointer (some ⟨gb, off + (4 * k + 1), none⟩)
  | 28 => v = .int .u8 (B (4 * k + 1))
  | 29 => v = .int .u32 (B (4 * k + 1))
  | 30 => v = .int .u32 (B (4 * k + 1) * 65536 % 4294967296)
  | 31 => v = .int .u32 (bits .or .u32 (B (4 * k) * 16777216 % 4294967296) (B (4 * k + 1) * 65536 % 4294967296))
  | 35 => v = .int .i64 (4 * (k : Int) + 2)
  | 36 => v = .pointer (some ⟨gb, off + (4 * k + 2), none⟩)
  | 37 => v = .int .u8 (B (4 * k + 2))
  | 38 => v = .int .u32 (B (4 * k + 2))
  | 39 => v = .int .u32 (B (4 * k + 2) * 256 % 4294967296)
  | 40 => v = .int .u32 (bits .or .u32 (bits .or .u32 (B (4 * k) * 16777216 % 4294967296) (B (4 * k + 1) * 65536 % 4294967296)) (B (4 * k + 2) * 256 % 4294967296))
  | 44 => v = .int .i64 (4 * (k : Int) + 3)
  | 45 => v = .pointer (some ⟨gb, off + (4 * k + 3), none⟩)
  | 46 => v = .int .u8 (B (4 * k + 3))
  | 47 => v = .int .u32 (B (4 * k + 3))
  | 48 => v = .int .u32 (word4 B k)
  | _ => True

theorem wd5_stable {B : Nat → Int} {l : Value} {base gb off cb k d : Nat} {v : Value} {w w' : World} (hb : Below w.heap.size w w') (h : wd5G B l base gb off cb k d v w) : wd5G B l base gb off cb k d v w' := by
  unfold wd5G at h ⊢
  split at h
  · obtain ⟨h1, e, h2, h3⟩ := h
    exact ⟨h1, e, h2, (hb.block h1 (by
      by_cases hx : h1 < w.heap.size
      · exact hx
      · rw [Array.getElem?_eq_none (by omega)] at h3; cases h3)).trans h3⟩
  all_goals exact h

def wd13G (F : Nat → Int) (base g c i : Nat) (a b : Int) (d : Nat) (v : Value) (w : World) : Prop :=
  match d with
  | 97 => ∃ h, v = .slice (some ⟨h, 0, none⟩) 1 1 ∧ base ≤ h ∧ w.heap[h]? = some (.cells #[.int .u32 (add32 (add32 (add32 (F (i - 16)) a) (F (i - 7))) b)] 29 (0, 0))
  | 81 | 82 | 89 => v = .slice (some ⟨g, 0, none⟩) i c
  | 83 | 90 => v = .int .i64 (i : Int)
  | 84 => v = .int .i64 ((i : Int) - 16)
  | 85 => v = .pointer (some ⟨g, i - 16, none⟩)
  | 86 => v = .int .u32 (F (i - 16))
  | 87 => v = .int .u32 a
  | 88 => v = .int .u32 (add32 (F (i - 16)) a)
  | 91 => v = .int .i64 ((i : Int) - 7)
  | 92 => v = .pointer (some ⟨g, i - 7, none⟩)
  | 93 => v = .int .u32 (F (i - 7))
  | 94 => v = .int .u32 (add32 (add32 (F (i - 16)) a) (F (i - 7)))
  | 95 => v = .int .u32 b
  | 96 => v = .int .u32 (add32 (add32 (add32 (F (i - 16)) a) (F (i - 7))) b)
  | _ => True

theorem wd13_stable {F : Nat → Int} {base g c i d : Nat} {a b : Int} {v : Value} {w w' : World} (hb : Below w.heap.size w w') (h : wd13G F base g c i a b d v w) : wd13G F base g c i a b d v w' := by
  unfold wd13G at h ⊢
  split at h
  · obtain ⟨h1, e, h2, h3⟩ := h
    exact ⟨h1, e, h2, (hb.block h1 (by
      by_cases hx : h1 < w.heap.size
      · exact hx
      · rw [Array.getElem?_eq_none (by omega)] at h3; cases h3)).trans h3⟩
  all_goals exact h

theorem infoU32 : (Tryd.prog.info? 29).map (fun i => (i.zero, i.size, i.bytes)) = some (some (.int .u32 0), 1, 4) := by kernel_rfl

theorem run_makeU (w : World) :
    (Instr.makeSlice 47 (.int .i64 0) (.int .i64 64)).run Tryd.prog w = .ok (.slice (some ⟨w.heap.size, 0, none⟩) 0 64) (w.alloc (.cells (madeCells #[.int .u32 0] 64) 29)) := by
  obtain ⟨i, hi, h0, h1, h2⟩ := info_parts infoU32
  have hr := run_make (P := Tryd.prog) w 47 29 i (.int .u32 0) Tryd.underlying47 hi h0 .i64 .i64 (0 : Int) (64 : Int) (by omega) (by omega) (by rw [h2]; omega) (by omega)
  simpa [h1, Value.cells] using hr
theorem own_madeU (w : World) : (w.alloc (.cells (madeCells #[.int .u32 0] 64) 29)).ownsRow w.heap.size 29 1 (.slice (some ⟨w.heap.size, 0, none⟩) 0 64) 0 [] := by
  refine ⟨rfl, Or.inr ⟨w.heap.size, 64, madeCells #[.int .u32 0] 64, rfl, Nat.le_refl _, blk_alloc_new _ _, by omega, by unfold maxLen; omega, ?_, rfl⟩⟩
  simp [madeCells]
theorem owns_belowU {w w' : World} {base e n : Nat} {l : Value} {xs : List Value} (h : w.ownsRow base e 1 l n xs) (hb : Below w.heap.size w w') : w'.ownsRow base e 1 l n xs :=
  h.kept (row := none) ⟨hb.os, hb.tape, hb.output, hb.size, fun k hk _ => hb.block k hk⟩ (by cases hv : l.ownBlock with
    | none => exact Or.inl rfl
    | some x => exact Or.inr (by simp))
theorem news_of (w : World) (h : Nat) (v : Value) (t : TypeId) (hh : w.heap[h]? = some (.cells #[v] t (0, 0))) : ∀ j u, [v][j]? = some u → w.cell? (Addr.add ⟨h, 0, none⟩ j) = some u :=
  World.news_of_block hh

/-- Loop states. -/
structure RowU (W : World) (l : Value) (k : Nat) (F : Nat → Int) (w' : World) : Prop where
  own : w'.ownsRow W.heap.size 29 1 l k (uCells F k)
  b : Below W.heap.size W w'
  sl : ∃ g c, l = .slice (some ⟨g, 0, none⟩) k c
theorem RowU.below {W w w' : World} {l : Value} {k : Nat} {F : Nat → Int} (h : RowU W l k F w) (hb : Below w.heap.size w w') : RowU W l k F w' :=
  ⟨owns_belowU h.own hb, h.b.trans (hb.mono h.b.size), h.sl⟩
theorem RowU.push {W w w' : World} {l : Value} {k : Nat} {F : Nat → Int} {v : Int} {g c : Nat} (h : RowU W l k F w) (hv : F k = v)
    (hown : w'.ownsRow W.heap.size 29 1 (.slice (some ⟨g, 0, none⟩) (k + 1) c) (k + 1) (uCells F k ++ [.int .u32 v])) (hgrow : w.grownBy w' l.ownBlock) : RowU W (.slice (some ⟨g, 0, none⟩) (k + 1) c) (k + 1) F w' := by
  refine ⟨by rw [uCells_succ, hv]; exact hown, ?_, g, c, rfl⟩
  exact h.b.grown hgrow h.b.size (fun q hq => (h.own.lt q hq).1)

theorem RowU.cell {W w : World} {g c k : Nat} {F : Nat → Int} (h : RowU W (.slice (some ⟨g, 0, none⟩) k c) k F w) {i : Nat} (hi : i < k) : w.cell? ⟨g, i, none⟩ = some (.int .u32 (F i)) := by
  obtain ⟨_, h | ⟨g', cap', cur, hv, hb, hh, hn, hc, hs, ht⟩⟩ := h.own
  · cases h.1
  · simp only [Value.slice.injEq, Option.some.injEq, Addr.mk.injEq, true_and, and_true] at hv
    obtain ⟨rfl, rfl⟩ := hv
    have h1 : (cur.toList.take (k * 1))[i]? = (uCells F k)[i]? := by rw [ht]
    rw [List.getElem?_take_of_lt (by omega)] at h1
    have h2 : (uCells F k)[i]? = some (.int .u32 (F i)) := by simp [uCells, hi]
    rw [h2] at h1
    simp only [World.cell?, hh]
    simpa using h1
theorem RowU.lt {W w : World} {g c k : Nat} {F : Nat → Int} (h : RowU W (.slice (some ⟨g, 0, none⟩) k c) k F w) : W.heap.size ≤ g ∧ g < w.heap.size := h.own.lt g rfl
theorem sched_lo {F : Nat → Int} (h : ∀ i, W32 (F i)) : ∀ m i, W32 (sched F m i)
  | 0, i => h i
  | m + 1, i => by
    simp only [sched, setU]
    split
    · unfold W32 nxtW add32
      omega
    · exact sched_lo h m i
theorem word4_lo (B : Nat → Int) (i : Nat) : W32 (word4 B i) := ⟨bits_lo_u32 _ _ _, bits_hi_u32 _ _ _⟩

set_option maxRecDepth 100000 in
set_option maxHeartbeats 8000000 in
theorem l1Words_any (gb off cb : Nat) (B : Nat → Int) (w : World) (hB : BytesAt w gb off 64 B) (hcb : 64 ≤ cb) :
    Calls Tryd.prog 28 #[.slice (some ⟨gb, off, none⟩) 64 cb] w fun e w' => ∃ g c, e = .returned (.slice (some ⟨g, 0, none⟩) 64 c) ∧ RowU w (.slice (some ⟨g, 0, none⟩) 64 c) 64 (sched (word4 B) 48) w' := by
  obtain ⟨i0, hi0, hz0, hz1, hz2⟩ := info_parts infoU32
  have hmk := run_makeU
  have hb0 := (Below.refl w.heap.size w).alloc (Nat.le_refl _) (.cells (madeCells #[.int .u32 0] 64) 29)
  have HST : Hid (RowU w (.slice (some ⟨w.heap.size, 0, none⟩) 0 64) 0 (word4 B) (w.alloc (.cells (madeCells #[.int .u32 0] 64) 29))) := ⟨own_madeU w, hb0, _, _, rfl⟩
  have HBY := Lib.hid (fun w' (hb : Below w.heap.size w w') => hB.below hb)
  have blo := hB.lo
  have bhi := hB.hi
  have HLO := Lib.hid blo
  have HHI := Lib.hid bhi
  clear hb0 hB blo bhi
  go_enter Tryd.func28, Tryd.ntmps28
  go_wp2_with fail
  go_loopw [3, 4] (fun l i w' => ∃ k : Nat, i = .int .i64 k ∧ k ≤ 16 ∧ RowU w l k (word4 B) w') (fun _ i _ => 16 - (intOf i).toNat)
  case atStart => exact ⟨0, rfl, by omega, HST.out⟩
  case round =>
    obtain ⟨k, rfl, hk, hr⟩ := hrel
    obtain ⟨wo, rfl⟩ : ∃ wo, wo = wr := ⟨_, rfl⟩
    clear HST
    have HR := Lib.hid hr
    have HW := Lib.hid (HBY.out wo hr.b)
    have hbase := hr.b.size
    obtain ⟨g, c, rfl⟩ := hr.sl
    clear hr
    by_cases hlt : k < 16
    · go_wp2_with fail
      refine wp_region_tail 35 (by decide) (by kernel_rfl) [15, 16, 17, 18, 19, 20, 21, 22, 23, 24, 25, 26, 27, 28, 29, 30, 31, 32, 33, 34, 35, 36, 37, 38, 39, 40, 41, 42, 43, 44, 45, 46, 47, 48, 49]
        (wd5G B (.slice (some ⟨g, 0, none⟩) k c) w.heap.size gb off cb k) (fun n w' => Below wo.heap.size wo w') (fun w w' => Below w.heap.size w w') (fun w => Below.refl _ _) (fun _ _ _ h k => h.trans (k.mono h.size)) ?stable
        [15, 16, 17, 18, 19, 20, 21, 22, 23, 24, 25, 26, 27, 28, 29, 30, 31, 32, 33, 34, 35, 36, 37, 38, 39, 40, 41, 42, 43, 44, 45, 46, 47, 48, 49, 50, 3] (by kernel_rfl) (by kernel_rfl) (by kernel_rfl) ((Below.refl _ _).drew) ?step ?fin
      case stable => exact fun d v w w' hS hG => wd5_stable hS hG
      case step =>
        refine ⟨?_, ?_, ?_, ?_, ?_, ?_, ?_, ?_, ?_, ?_, ?_, ?_, ?_, ?_, ?_, ?_, ?_, ?_, ?_, ?_, ?_, ?_, ?_, ?_, ?_, ?_, ?_, ?_, ?_, ?_, ?_, ?_, ?_, ?_, ?_, trivial⟩
        all_goals intro n f wx hn hI hS haf
        all_goals have HI := Lib.hid hI
        all_goals have hc := (HW.out.below hI).c
        all_goals have c0 := hc (4 * k) (by omega)
        all_goals have c1 := hc (4 * k + 1) (by omega)
        all_goals have c2 := hc (4 * k + 2) (by omega)
        all_goals have c3 := hc (4 * k + 3) (by omega)
        all_goals have l0 := HLO.out (4 * k)
        all_goals have l1 := HLO.out (4 * k + 1)
        all_goals have l2 := HLO.out (4 * k + 2)
        all_goals have l3 := HLO.out (4 * k + 3)
        all_goals have u0 := HHI.out (4 * k)
        all_goals have u1 := HHI.out (4 * k + 1)
        all_goals have u2 := HHI.out (4 * k + 2)
        all_goals have u3 := HHI.out (4 * k + 3)
        all_goals have z0 : IntKind.i64.wrap (4 * (k : Int)) = 4 * (k : Int) := IntWalk.i64_in _ (by omega)
        all_goals have y0 : 0 ≤ 4 * (k : Int) ∧ 4 * (k : Int) < 64 := ⟨by omega, by omega⟩
        all_goals have t0 : (4 * (k : Int)).toNat = 4 * k := by omega
        all_goals have x0 : IntKind.u32.wrap (B (4 * k)) = B (4 * k) := IntWalk.u32_in _ (by omega)
        all_goals have z1 : IntKind.i64.wrap (4 * (k : Int) + 1) = 4 * (k : Int) + 1 := IntWalk.i64_in _ (by omega)
        all_goals have y1 : 0 ≤ 4 * (k : Int) + 1 ∧ 4 * (k : Int) + 1 < 64 := ⟨by omega, by omega⟩
        all_goals have t1 : (4 * (k : Int) + 1).toNat = 4 * k + 1 := by omega
        all_goals have x1 : IntKind.u32.wrap (B (4 * k + 1)) = B (4 * k + 1) := IntWalk.u32_in _ (by omega)
        all_goals have z2 : IntKind.i64.wrap (4 * (k : Int) + 2) = 4 * (k : Int) + 2 := IntWalk.i64_in _ (by omega)
        all_goals have y2 : 0 ≤ 4 * (k : Int) + 2 ∧ 4 * (k : Int) + 2 < 64 := ⟨by omega, by omega⟩
        all_goals have t2 : (4 * (k : Int) + 2).toNat = 4 * k + 2 := by omega
        all_goals have x2 : IntKind.u32.wrap (B (4 * k + 2)) = B (4 * k + 2) := IntWalk.u32_in _ (by omega)
        all_goals have z3 : IntKind.i64.wrap (4 * (k : Int) + 3) = 4 * (k : Int) + 3 := IntWalk.i64_in _ (by omega)
        all_goals have y3 : 0 ≤ 4 * (k : Int) + 3 ∧ 4 * (k : Int) + 3 < 64 := ⟨by omega, by omega⟩
        all_goals have t3 : (4 * (k : Int) + 3).toNat = 4 * k + 3 := by omega
        all_goals have x3 : IntKind.u32.wrap (B (4 * k + 3)) = B (4 * k + 3) := IntWalk.u32_in _ (by omega)
        all_goals clear hI hS hc l0 l1 l2 l3 u0 u1 u2 u3
        · simp [frameOf, goFrame]; go_simp; exact ⟨HI.out, Below.refl _ _, rfl⟩
        · simp [frameOf, goFrame]; go_simp; exact ⟨HI.out, Below.refl _ _, rfl⟩
        · simp [frameOf, goFrame]; go_simp; exact ⟨HI.out, Below.refl _ _, rfl⟩
        · have h17 : f 17 = .int .i64 (k : Int) := (by first | exact haf.1 | exact haf.2.1 | exact haf.2.2.1 | exact haf.2.2.2.1); simp [frameOf, goFrame, h17]; go_simp; exact ⟨HI.out, Below.refl _ _, rfl⟩
        · have h16 : f 16 = .slice (some ⟨gb, off, none⟩) 64 cb := (by first | exact haf.1 | exact haf.2.1 | exact haf.2.2.1 | exact haf.2.2.2.1); have h18 : f 18 = .int .i64 (4 * (k : Int)) := (by first | exact haf.1 | exact haf.2.1 | exact haf.2.2.1 | exact haf.2.2.2.1); simp [frameOf, goFrame, h16, h18]; go_simp; exact ⟨HI.out, Below.refl _ _, rfl⟩
        · have h19 : f 19 = .pointer (some ⟨gb, off + (4 * k), none⟩) := (by first | exact haf.1 | exact haf.2.1 | exact haf.2.2.1 | exact haf.2.2.2.1); simp [frameOf, goFrame, h19]; go_simp; exact ⟨HI.out, Below.refl _ _, rfl⟩
        · have h20 : f 20 = .int .u8 (B (4 * k)) := (by first | exact haf.1 | exact haf.2.1 | exact haf.2.2.1 | exact haf.2.2.2.1); simp [frameOf, goFrame, h20]; go_simp; exact ⟨HI.out, Below.refl _ _, rfl⟩
        · have h21 : f 21 = .int .u32 (B (4 * k)) := (by first | exact haf.1 | exact haf.2.1 | exact haf.2.2.1 | exact haf.2.2.2.1); simp [frameOf, goFrame, h21]; go_simp; exact ⟨HI.out, Below.refl _ _, rfl⟩
        · simp [frameOf, goFrame]; go_simp; exact ⟨HI.out, Below.refl _ _, rfl⟩
        · simp [frameOf, goFrame]; go_simp; exact ⟨HI.out, Below.refl _ _, rfl⟩
        · have h24 : f 24 = .int .i64 (k : Int) := (by first | exact haf.1 | exact haf.2.1 | exact haf.2.2.1 | exact haf.2.2.2.1); simp [frameOf, goFrame, h24]; go_simp; exact ⟨HI.out, Below.refl _ _, rfl⟩
        · have h25 : f 25 = .int .i64 (4 * (k : Int)) := (by first | exact haf.1 | exact haf.2.1 | exact haf.2.2.1 | exact haf.2.2.2.1); simp [frameOf, goFrame, h25]; go_simp; exact ⟨HI.out, Below.refl _ _, rfl⟩
        · have h23 : f 23 = .slice (some ⟨gb, off, none⟩) 64 cb := (by first | exact haf.1 | exact haf.2.1 | exact haf.2.2.1 | exact haf.2.2.2.1); have h26 : f 26 = .int .i64 (4 * (k : Int) + 1) := (by first | exact haf.1 | exact haf.2.1 | exact haf.2.2.1 | exact haf.2.2.2.1); simp [frameOf, goFrame, h23, h26]; go_simp; exact ⟨HI.out, Below.refl _ _, rfl⟩
        · have h27 : f 27 = .pointer (some ⟨gb, off + (4 * k + 1), none⟩) := (by first | exact haf.1 | exact haf.2.1 | exact haf.2.2.1 | exact haf.2.2.2.1); simp [frameOf, goFrame, h27]; go_simp; exact ⟨HI.out, Below.refl _ _, rfl⟩
        · have h28 : f 28 = .int .u8 (B (4 * k + 1)) := (by first | exact haf.1 | exact haf.2.1 | exact haf.2.2.1 | exact haf.2.2.2.1); simp [frameOf, goFrame, h28]; go_simp; exact ⟨HI.out, Below.refl _ _, rfl⟩
        · have h29 : f 29 = .int .u32 (B (4 * k + 1)) := (by first | exact haf.1 | exact haf.2.1 | exact haf.2.2.1 | exact haf.2.2.2.1); simp [frameOf, goFrame, h29]; go_simp; exact ⟨HI.out, Below.refl _ _, rfl⟩
        · have h22 : f 22 = .int .u32 (B (4 * k) * 16777216 % 4294967296) := (by first | exact haf.1 | exact haf.2.1 | exact haf.2.2.1 | exact haf.2.2.2.1); have h30 : f 30 = .int .u32 (B (4 * k + 1) * 65536 % 4294967296) := (by first | exact haf.1 | exact haf.2.1 | exact haf.2.2.1 | exact haf.2.2.2.1); simp [frameOf, goFrame, h22, h30]; go_simp; exact ⟨HI.out, Below.refl _ _, rfl⟩
        · simp [frameOf, goFrame]; go_simp; exact ⟨HI.out, Below.refl _ _, rfl⟩
        · simp [frameOf, goFrame]; go_simp; exact ⟨HI.out, Below.refl _ _, rfl⟩
        · have h33 : f 33 = .int .i64 (k : Int) := (by first | exact haf.1 | exact haf.2.1 | exact haf.2.2.1 | exact haf.2.2.2.1); simp [frameOf, goFrame, h33]; go_simp; exact ⟨HI.out, Below.refl _ _, rfl⟩
        · have h34 : f 34 = .int .i64 (4 * (k : Int)) := (by first | exact haf.1 | exact haf.2.1 | exact haf.2.2.1 | exact haf.2.2.2.1); simp [frameOf, goFrame, h34]; go_simp; exact ⟨HI.out, Below.refl _ _, rfl⟩
        · have h32 : f 32 = .slice (some ⟨gb, off, none⟩) 64 cb := (by first | exact haf.1 | exact haf.2.1 | exact haf.2.2.1 | exact haf.2.2.2.1); have h35 : f 35 = .int .i64 (4 * (k : Int) + 2) := (by first | exact haf.1 | exact haf.2.1 | exact haf.2.2.1 | exact haf.2.2.2.1); simp [frameOf, goFrame, h32, h35]; go_simp; exact ⟨HI.out, Below.refl _ _, rfl⟩
        · have h36 : f 36 = .pointer (some ⟨gb, off + (4 * k + 2), none⟩) := (by first | exact haf.1 | exact haf.2.1 | exact haf.2.2.1 | exact haf.2.2.2.1); simp [frameOf, goFrame, h36]; go_simp; exact ⟨HI.out, Below.refl _ _, rfl⟩
        · have h37 : f 37 = .int .u8 (B (4 * k + 2)) := (by first | exact haf.1 | exact haf.2.1 | exact haf.2.2.1 | exact haf.2.2.2.1); simp [frameOf, goFrame, h37]; go_simp; exact ⟨HI.out, Below.refl _ _, rfl⟩
        · have h38 : f 38 = .int .u32 (B (4 * k + 2)) := (by first | exact haf.1 | exact haf.2.1 | exact haf.2.2.1 | exact haf.2.2.2.1); simp [frameOf, goFrame, h38]; go_simp; exact ⟨HI.out, Below.refl _ _, rfl⟩
        · have h31 : f 31 = .int .u32 (bits .or .u32 (B (4 * k) * 16777216 % 4294967296) (B (4 * k + 1) * 65536 % 4294967296)) := (by first | exact haf.1 | exact haf.2.1 | exact haf.2.2.1 | exact haf.2.2.2.1); have h39 : f 39 = .int .u32 (B (4 * k + 2) * 256 % 4294967296) := (by first | exact haf.1 | exact haf.2.1 | exact haf.2.2.1 | exact haf.2.2.2.1); simp [frameOf, goFrame, h31, h39]; go_simp; exact ⟨HI.out, Below.refl _ _, rfl⟩
        · simp [frameOf, goFrame]; go_simp; exact ⟨HI.out, Below.refl _ _, rfl⟩
        · simp [frameOf, goFrame]; go_simp; exact ⟨HI.out, Below.refl _ _, rfl⟩
        · have h42 : f 42 = .int .i64 (k : Int) := (by first | exact haf.1 | exact haf.2.1 | exact haf.2.2.1 | exact haf.2.2.2.1); simp [frameOf, goFrame, h42]; go_simp; exact ⟨HI.out, Below.refl _ _, rfl⟩
        · have h43 : f 43 = .int .i64 (4 * (k : Int)) := (by first | exact haf.1 | exact haf.2.1 | exact haf.2.2.1 | exact haf.2.2.2.1); simp [frameOf, goFrame, h43]; go_simp; exact ⟨HI.out, Below.refl _ _, rfl⟩
        · have h41 : f 41 = .slice (some ⟨gb, off, none⟩) 64 cb := (by first | exact haf.1 | exact haf.2.1 | exact haf.2.2.1 | exact haf.2.2.2.1); have h44 : f 44 = .int .i64 (4 * (k : Int) + 3) := (by first | exact haf.1 | exact haf.2.1 | exact haf.2.2.1 | exact haf.2.2.2.1); simp [frameOf, goFrame, h41, h44]; go_simp; exact ⟨HI.out, Below.refl _ _, rfl⟩
        · have h45 : f 45 = .pointer (some ⟨gb, off + (4 * k + 3), none⟩) := (by first | exact haf.1 | exact haf.2.1 | exact haf.2.2.1 | exact haf.2.2.2.1); simp [frameOf, goFrame, h45]; go_simp; exact ⟨HI.out, Below.refl _ _, rfl⟩
        · have h46 : f 46 = .int .u8 (B (4 * k + 3)) := (by first | exact haf.1 | exact haf.2.1 | exact haf.2.2.1 | exact haf.2.2.2.1); simp [frameOf, goFrame, h46]; go_simp; exact ⟨HI.out, Below.refl _ _, rfl⟩
        · have h40 : f 40 = .int .u32 (bits .or .u32 (bits .or .u32 (B (4 * k) * 16777216 % 4294967296) (B (4 * k + 1) * 65536 % 4294967296)) (B (4 * k + 2) * 256 % 4294967296)) := (by first | exact haf.1 | exact haf.2.1 | exact haf.2.2.1 | exact haf.2.2.2.1); have h47 : f 47 = .int .u32 (B (4 * k + 3)) := (by first | exact haf.1 | exact haf.2.1 | exact haf.2.2.1 | exact haf.2.2.2.1); simp [frameOf, goFrame, h40, h47]; go_simp; exact ⟨HI.out, Below.refl _ _, rfl⟩
        · have h48 : f 48 = .int .u32 (word4 B k) := (by first | exact haf.1 | exact haf.2.1 | exact haf.2.2.1 | exact haf.2.2.2.1); simp [frameOf, goFrame, h48]; go_simp; exact ⟨HI.out.alloc HI.out.size _, (Below.refl _ _).alloc (Nat.le_refl _) _, wx.heap.size, rfl, Nat.le_trans hbase HI.out.size, blk_alloc_new _ _⟩
      case fin =>
        intro n f w1 hn hI hS hG
        have h15 : f 15 = .slice (some ⟨g, 0, none⟩) k c := hG 0 _ 15 (by decide) rfl rfl
        obtain ⟨h, h49, hh, hcell⟩ : ∃ h, f 49 = .slice (some ⟨h, 0, none⟩) 1 1 ∧ w.heap.size ≤ h ∧ w1.heap[h]? = some (.cells #[.int .u32 (word4 B k)] 29 (0, 0)) := hG 34 _ 49 (by decide) rfl rfl
        have HI := Lib.hid hI
        have hs1 := hI.size
        clear hG hS hn
        change Oper.wp Tryd.prog _ _ _ (fun a' w' => TailOk Tryd.prog _ _ a' w') _
        refine wp_append_lies w1 (.tmp 15) (.tmp 49) 47 rfl w.heap.size 29 i0 (.int .u32 0) 1 4 Tryd.underlying47 hi0 hz0 hz1 hz2 rfl (by decide) (.slice (some ⟨g, 0, none⟩) k c) k (uCells (word4 B) k) ?hs (owns_belowU HR.out.own hI) ⟨h, 0, none⟩ 1 1 [.int .u32 (word4 B k)] ?hx rfl (news_of w1 h _ _ hcell) (by simp [Value.oneCell']) (by decide) (by unfold maxLen; omega) (by omega) (by omega) w1.heap.size rfl ?_
        case hs => simp [frameOf, goFrame, Act.eval, h15]
        case hx => simp [frameOf, goFrame, Act.eval, h49]
        intro g' c' w4 hown hgrow hat hlt4
        have HW4 := Lib.hid ((HR.out.below hI).push (F := word4 B) rfl hown hgrow)
        clear hown hgrow hat
        simp [frameOf, goFrame, TailOk]
        go_simp
        try simp only [TailOk, List.drop]
        go_wp2_with fail
        go_roundw
        case rel => exact ⟨k + 1, by go_num, by omega, HW4.out⟩
        case measure => simp [intOf]; omega
    · have e16 : k = 16 := by omega
      subst e16
      have hst2 : RowU w (.slice (some ⟨g, 0, none⟩) 16 c) 16 (sched (word4 B) 0) wo := HR.out
      have HST2 := Lib.hid hst2
      have HBY2 := Lib.hid HBY.out
      clear HR hst2 hlt
      rw [show ((16 : Nat) : Int) = 16 from rfl]
      go_wp2_with fail
      go_loopw [3, 5] (fun l i w' => ∃ k : Nat, i = .int .i64 k ∧ 16 ≤ k ∧ k ≤ 64 ∧ RowU w l k (sched (word4 B) (k - 16)) w') (fun _ i _ => 64 - (intOf i).toNat)
      case atStart => exact ⟨16, rfl, by omega, by omega, HST2.out⟩
      case round =>
        obtain ⟨i, rfl, hi1, hi2, hr⟩ := hrel
        obtain ⟨wq, rfl⟩ : ∃ wq, wq = wr := ⟨_, rfl⟩
        clear HST2 HW
        obtain ⟨F, hF⟩ : ∃ F, F = sched (word4 B) (i - 16) := ⟨_, rfl⟩
        have HNX : Hid (i < 64 → sched (word4 B) (i + 1 - 16) = setU F i (nxtW F i)) := by
          intro h
          rw [hF, show i + 1 - 16 = (i - 16) + 1 from by omega]
          simp only [sched]
          rw [show 16 + (i - 16) = i from by omega]
        have HF : Hid (∀ i, W32 (F i)) := by rw [hF]; exact sched_lo (word4_lo B) _
        have HEND : Hid (i = 64 → F = sched (word4 B) 48) := by rintro rfl; exact hF
        rw [← hF] at hr
        clear hF
        have HR := Lib.hid hr
        have hbase := hr.b.size
        obtain ⟨g, c, rfl⟩ := hr.sl
        clear hr
        by_cases hlt : i < 64
        · have c15 := HR.out.cell (i := i - 15) (by omega)
          have c2 := HR.out.cell (i := i - 2) (by omega)
          have z15 : IntKind.i64.wrap ((i : Int) - 15) = (i : Int) - 15 := IntWalk.i64_in _ (by omega)
          have z2 : IntKind.i64.wrap ((i : Int) - 2) = (i : Int) - 2 := IntWalk.i64_in _ (by omega)
          have y15 : 0 ≤ (i : Int) - 15 ∧ (i : Int) - 15 < i := ⟨by omega, by omega⟩
          have y2 : 0 ≤ (i : Int) - 2 ∧ (i : Int) - 2 < i := ⟨by omega, by omega⟩
          have t15 : ((i : Int) - 15).toNat = i - 15 := by omega
          have t2 : ((i : Int) - 2).toNat = i - 2 := by omega
          have l15 := (HF.out (i - 15)).1
          have u15 := (HF.out (i - 15)).2
          have l2 := (HF.out (i - 2)).1
          have u2 := (HF.out (i - 2)).2
          obtain ⟨x, hx⟩ : ∃ x, x = F (i - 15) := ⟨_, rfl⟩
          obtain ⟨y, hy⟩ : ∃ y, y = F (i - 2) := ⟨_, rfl⟩
          have HX := Lib.hid hx
          have HY := Lib.hid hy
          rw [← hx] at c15 l15 u15
          rw [← hy] at c2 l2 u2
          clear hx hy
          go_wp2_with fail
          refine (turn_any x 7 _ l15 u15 (by unfold isTurn; omega)).mono ?_
          rintro e w1 ⟨rfl, n1, rfl⟩
          go_wp2_with fail
          refine (turn_any x 18 _ l15 u15 (by unfold isTurn; omega)).mono ?_
          rintro e w1 ⟨rfl, n2, rfl⟩
          go_wp2_with fail
          refine (turn_any y 17 _ l2 u2 (by unfold isTurn; omega)).mono ?_
          rintro e w1 ⟨rfl, n3, rfl⟩
          go_wp2_with fail
          refine (turn_any y 19 _ l2 u2 (by unfold isTurn; omega)).mono ?_
          rintro e w1 ⟨rfl, n4, rfl⟩
          have HRZ := Lib.hid (HR.out.below (below_drewN (below_drewN (Below.refl _ _) (n1 + n2 + n3)) n4))
          have hbz : w.heap.size ≤ ((wq.drewN (n1 + n2 + n3)).drewN n4).heap.size := hbase
          obtain ⟨wz, hwz⟩ : ∃ wz, wz = (wq.drewN (n1 + n2 + n3)).drewN n4 := ⟨_, rfl⟩
          rw [← hwz] at HRZ hbz
          rw [← hwz]
          clear hwz c15 c2 z15 z2 y15 y2 t15 t2 HR hbase
          have hbase := hbz
          go_wp2_with fail
          refine wp_region_tail 17 (by decide) (by kernel_rfl) [81, 82, 83, 84, 85, 86, 87, 88, 89, 90, 91, 92, 93, 94, 95, 96, 97]
            (wd13G F w.heap.size g c i (sg0 x) (sg1 y)) (fun n w' => Below wz.heap.size wz w') (fun w w' => Below w.heap.size w w') (fun w => Below.refl _ _) (fun _ _ _ h k => h.trans (k.mono h.size)) ?stable
            [81, 82, 83, 84, 85, 86, 87, 88, 89, 90, 91, 92, 93, 94, 95, 96, 97, 98, 3] (by kernel_rfl) (by kernel_rfl) (by kernel_rfl) ((Below.refl _ _).drew) ?step ?fin
          case stable => exact fun d v w w' hS hG => wd13_stable hS hG
          case step =>
            refine ⟨?_, ?_, ?_, ?_, ?_, ?_, ?_, ?_, ?_, ?_, ?_, ?_, ?_, ?_, ?_, ?_, ?_, trivial⟩
            all_goals intro n f wx hn hI hS haf
            all_goals have HI := Lib.hid hI
            all_goals have q16 : (16 : Int) ≤ (i : Int) := by omega
            all_goals have q7 : (7 : Int) ≤ (i : Int) := by omega
            all_goals have z16 : IntKind.i64.wrap ((i : Int) - 16) = (i : Int) - 16 := IntWalk.i64_in _ (by omega)
            all_goals have y16 : 0 ≤ (i : Int) - 16 ∧ (i : Int) - 16 < i := ⟨by omega, by omega⟩
            all_goals have t16 : ((i : Int) - 16).toNat = i - 16 := by omega
            all_goals have c16 := (HRZ.out.below hI).cell (i := i - 16) (by omega)
            all_goals have z7 : IntKind.i64.wrap ((i : Int) - 7) = (i : Int) - 7 := IntWalk.i64_in _ (by omega)
            all_goals have y7 : 0 ≤ (i : Int) - 7 ∧ (i : Int) - 7 < i := ⟨by omega, by omega⟩
            all_goals have t7 : ((i : Int) - 7).toNat = i - 7 := by omega
            all_goals have c7 := (HRZ.out.below hI).cell (i := i - 7) (by omega)
            all_goals clear hI hS
            · simp [frameOf, goFrame]; go_simp; exact ⟨HI.out, Below.refl _ _, rfl⟩
            · simp [frameOf, goFrame]; go_simp; exact ⟨HI.out, Below.refl _ _, rfl⟩
            · simp [frameOf, goFrame]; go_simp; exact ⟨HI.out, Below.refl _ _, rfl⟩
            · have h83 : f 83 = .int .i64 (i : Int) := (by first | exact haf.1 | exact haf.2.1 | exact haf.2.2.1 | exact haf.2.2.2.1); simp [frameOf, goFrame, h83]; go_simp; exact ⟨HI.out, Below.refl _ _, rfl⟩
            · have h82 : f 82 = .slice (some ⟨g, 0, none⟩) i c := (by first | exact haf.1 | exact haf.2.1 | exact haf.2.2.1 | exact haf.2.2.2.1); have h84 : f 84 = .int .i64 ((i : Int) - 16) := (by first | exact haf.1 | exact haf.2.1 | exact haf.2.2.1 | exact haf.2.2.2.1); simp [frameOf, goFrame, h82, h84]; go_simp; exact ⟨HI.out, Below.refl _ _, rfl⟩
            · have h85 : f 85 = .pointer (some ⟨g, i - 16, none⟩) := (by first | exact haf.1 | exact haf.2.1 | exact haf.2.2.1 | exact haf.2.2.2.1); simp [frameOf, goFrame, h85]; go_simp; exact ⟨HI.out, Below.refl _ _, rfl⟩
            · simp [frameOf, goFrame]; go_simp; exact ⟨HI.out, Below.refl _ _, rfl⟩
            · have h86 : f 86 = .int .u32 (F (i - 16)) := (by first | exact haf.1 | exact haf.2.1 | exact haf.2.2.1 | exact haf.2.2.2.1); have h87 : f 87 = .int .u32 (sg0 x) := (by first | exact haf.1 | exact haf.2.1 | exact haf.2.2.1 | exact haf.2.2.2.1); simp [frameOf, goFrame, h86, h87]; go_simp; exact ⟨HI.out, Below.refl _ _, rfl⟩
            · simp [frameOf, goFrame]; go_simp; exact ⟨HI.out, Below.refl _ _, rfl⟩
            · simp [frameOf, goFrame]; go_simp; exact ⟨HI.out, Below.refl _ _, rfl⟩
            · have h90 : f 90 = .int .i64 (i : Int) := (by first | exact haf.1 | exact haf.2.1 | exact haf.2.2.1 | exact haf.2.2.2.1); simp [frameOf, goFrame, h90]; go_simp; exact ⟨HI.out, Below.refl _ _, rfl⟩
            · have h89 : f 89 = .slice (some ⟨g, 0, none⟩) i c := (by first | exact haf.1 | exact haf.2.1 | exact haf.2.2.1 | exact haf.2.2.2.1); have h91 : f 91 = .int .i64 ((i : Int) - 7) := (by first | exact haf.1 | exact haf.2.1 | exact haf.2.2.1 | exact haf.2.2.2.1); simp [frameOf, goFrame, h89, h91]; go_simp; exact ⟨HI.out, Below.refl _ _, rfl⟩
            · have h92 : f 92 = .pointer (some ⟨g, i - 7, none⟩) := (by first | exact haf.1 | exact haf.2.1 | exact haf.2.2.1 | exact haf.2.2.2.1); simp [frameOf, goFrame, h92]; go_simp; exact ⟨HI.out, Below.refl _ _, rfl⟩
            · have h88 : f 88 = .int .u32 (add32 (F (i - 16)) (sg0 x)) := (by first | exact haf.1 | exact haf.2.1 | exact haf.2.2.1 | exact haf.2.2.2.1); have h93 : f 93 = .int .u32 (F (i - 7)) := (by first | exact haf.1 | exact haf.2.1 | exact haf.2.2.1 | exact haf.2.2.2.1); simp [frameOf, goFrame, h88, h93]; go_simp; exact ⟨HI.out, Below.refl _ _, rfl⟩
            · simp [frameOf, goFrame]; go_simp; exact ⟨HI.out, Below.refl _ _, rfl⟩
            · have h94 : f 94 = .int .u32 (add32 (add32 (F (i - 16)) (sg0 x)) (F (i - 7))) := (by first | exact haf.1 | exact haf.2.1 | exact haf.2.2.1 | exact haf.2.2.2.1); have h95 : f 95 = .int .u32 (sg1 y) := (by first | exact haf.1 | exact haf.2.1 | exact haf.2.2.1 | exact haf.2.2.2.1); simp [frameOf, goFrame, h94, h95]; go_simp; exact ⟨HI.out, Below.refl _ _, rfl⟩
            · have h96 : f 96 = .int .u32 (add32 (add32 (add32 (F (i - 16)) (sg0 x)) (F (i - 7))) (sg1 y)) := (by first | exact haf.1 | exact haf.2.1 | exact haf.2.2.1 | exact haf.2.2.2.1); simp [frameOf, goFrame, h96]; go_simp; exact ⟨HI.out.alloc HI.out.size _, (Below.refl _ _).alloc (Nat.le_refl _) _, wx.heap.size, rfl, Nat.le_trans hbase HI.out.size, blk_alloc_new _ _⟩
          case fin =>
            intro n f w1 hn hI hS hG
            have h81 : f 81 = .slice (some ⟨g, 0, none⟩) i c := hG 0 _ 81 (by decide) rfl rfl
            obtain ⟨h, h97, hh, hcell⟩ : ∃ h, f 97 = .slice (some ⟨h, 0, none⟩) 1 1 ∧ w.heap.size ≤ h ∧ w1.heap[h]? = some (.cells #[.int .u32 (add32 (add32 (add32 (F (i - 16)) (sg0 x)) (F (i - 7))) (sg1 y))] 29 (0, 0)) := hG 16 _ 97 (by decide) rfl rfl
            have hs1 := hI.size
            have HR1 := Lib.hid (HRZ.out.below hI)
            have hz := HR1.out.b.size
            clear hG hS hn
            change Oper.wp Tryd.prog _ _ _ (fun a' w' => TailOk Tryd.prog _ _ a' w') _
            refine wp_append_lies w1 (.tmp 81) (.tmp 97) 47 rfl w.heap.size 29 i0 (.int .u32 0) 1 4 Tryd.underlying47 hi0 hz0 hz1 hz2 rfl (by decide) (.slice (some ⟨g, 0, none⟩) i c) i (uCells F i) ?hs HR1.out.own ⟨h, 0, none⟩ 1 1 [.int .u32 (add32 (add32 (add32 (F (i - 16)) (sg0 x)) (F (i - 7))) (sg1 y))] ?hx rfl (news_of w1 h _ _ hcell) (by simp [Value.oneCell']) (by decide) (by unfold maxLen; omega) (by omega) hz w1.heap.size rfl ?_
            case hs => simp [frameOf, goFrame, Act.eval, h81]
            case hx => simp [frameOf, goFrame, Act.eval, h97]
            intro g' c' w4 hown hgrow hat hlt4
            have HW4 : Hid (RowU w (.slice (some ⟨g', 0, none⟩) (i + 1) c') (i + 1) (sched (word4 B) (i + 1 - 16)) w4) := by
              have e1 : uCells F i = uCells (setU F i (nxtW F i)) i := uCells_congr fun j hj => by
                have : ¬ j = i := by omega
                simp [setU, this]
              have HR2 : RowU w (.slice (some ⟨g, 0, none⟩) i c) i (setU F i (nxtW F i)) w1 := ⟨by rw [← e1]; exact HR1.out.own, HR1.out.b, HR1.out.sl⟩
              show RowU _ _ _ _ _
              rw [HNX.out hlt]
              refine HR2.push (v := nxtW F i) (by simp [setU]) ?_ hgrow
              rw [← e1]
              unfold nxtW
              rw [← HX.out, ← HY.out]
              exact hown
            clear hown hgrow hat
            simp [frameOf, goFrame, TailOk]
            go_simp
            try simp only [TailOk, List.drop]
            go_wp2_with fail
            go_roundw
            case rel =>
              exact ⟨i + 1, by go_num, by omega, by omega, HW4.out⟩
            case measure => simp [intOf]; omega
        · have e64 : i = 64 := by omega
          subst e64
          have hE := HEND.out rfl
          subst hE
          go_wp2_with fail
          go_ret
          exact ⟨g, c, rfl, HR.out⟩
end My
end Go.Proofs.YtabpkabeabemmaaDoor
