/- SHA-256: the reference's block. -/
import Derived.Test.YtabpkabeabemmaaDoorHashM
namespace Go.Proofs.YtabpkabeabemmaaDoor
open Go.RowKit Go.Deep
set_option linter.unusedVariables false
namespace My

def not32 (x : Int) : Int := bits .xor .u32 4294967295 x
def S1 (e : Int) : Int := bits .xor .u32 (bits .xor .u32 (rotN 6 e) (rotN 11 e)) (rotN 25 e)
def S0 (a : Int) : Int := bits .xor .u32 (bits .xor .u32 (rotN 2 a) (rotN 13 a)) (rotN 22 a)
def chF (e f g : Int) : Int := bits .xor .u32 (bits .and .u32 e f) (bits .and .u32 (not32 e) g)
def majF (a b c : Int) : Int := bits .xor .u32 (bits .xor .u32 (bits .and .u32 a b) (bits .and .u32 a c)) (bits .and .u32 b c)
def oneF (F K W : Nat → Int) (i : Nat) : Int := add32 (add32 (add32 (add32 (F 7) (S1 (F 4))) (chF (F 4) (F 5) (F 6))) (K i)) (W i)
def rnd (F K W : Nat → Int) (i j : Nat) : Int :=
  match j with
  | 0 => add32 (add32 (oneF F K W i) (S0 (F 0))) (majF (F 0) (F 1) (F 2))
  | 4 => add32 (F 3) (oneF F K W i)
  | j + 1 => F j
def rnds (F K W : Nat → Int) : Nat → Nat → Int
  | 0 => F
  | i + 1 => rnd (rnds F K W i) K W i
def shF (F : Nat → Int) (n j : Nat) : Int := if n < j then F (j - 1) else F j
theorem row_stable {w w' : World} {v : Value} {n m base : Nat} {o : Obj} (hb : Below w.heap.size w w') (h : ∃ h, v = .slice (some ⟨h, 0, none⟩) n m ∧ base ≤ h ∧ w.heap[h]? = some o) : ∃ h, v = .slice (some ⟨h, 0, none⟩) n m ∧ base ≤ h ∧ w'.heap[h]? = some o := by
  obtain ⟨h1, e, h2, h3⟩ := h
  exact ⟨h1, e, h2, (hb.block h1 (by
    by_cases hx : h1 < w.heap.size
    · exact hx
    · rw [Array.getElem?_eq_none (by omega)] at h3; cases h3)).trans h3⟩
/-- n words lie at the head of a block that may be written. -/
def OwnU (w : World) (g n : Nat) (F : Nat → Int) : Prop := ∃ t cur, w.heap[g]? = some (.cells cur t (0, 0)) ∧ ∀ i, i < n → cur[i]? = some (.int .u32 (F i))
theorem OwnU.cell {w : World} {g n : Nat} {F : Nat → Int} (h : OwnU w g n F) {i : Nat} (hi : i < n) : w.cell? ⟨g, i, none⟩ = some (.int .u32 (F i)) := by
  obtain ⟨t, cur, hh, hc⟩ := h
  simp only [World.cell?, hh]; exact hc i hi
theorem OwnU.frozen {w : World} {g n : Nat} {F : Nat → Int} (h : OwnU w g n F) (i : Nat) : w.frozen? ⟨g, i, none⟩ = false := by
  obtain ⟨t, cur, hh, hc⟩ := h
  simp [World.frozen?, hh]
theorem OwnU.lt {w : World} {g n : Nat} {F : Nat → Int} (h : OwnU w g n F) : g < w.heap.size := by
  obtain ⟨t, cur, hh, hc⟩ := h
  by_cases hx : g < w.heap.size
  · exact hx
  · rw [Array.getElem?_eq_none (by omega)] at hh; cases hh
theorem OwnU.of_block {w w' : World} {g n : Nat} {F : Nat → Int} (h : OwnU w g n F) (e : w'.heap[g]? = w.heap[g]?) : OwnU w' g n F := by
  obtain ⟨t, cur, hh, hc⟩ := h
  exact ⟨t, cur, e.trans hh, hc⟩
theorem OwnU.below {w w' : World} {g n B : Nat} {F : Nat → Int} (h : OwnU w g n F) (hb : Below B w w') (hB : w.heap.size ≤ B) : OwnU w' g n F :=
  h.of_block (hb.block g (Nat.lt_of_lt_of_le h.lt hB))
theorem OwnU.set {w : World} {g n : Nat} {F : Nat → Int} (h : OwnU w g n F) (i : Nat) (v : Int) : OwnU (w.setCell ⟨g, i, none⟩ (.int .u32 v)) g n (setU F i v) := by
  obtain ⟨t, cur, hh, hc⟩ := h
  refine ⟨t, cur.setIfInBounds i (.int .u32 v), ?_, ?_⟩
  · simp [World.setCell, Array.getElem?_modify, hh]
  · intro j hj
    rw [Array.getElem?_setIfInBounds]
    by_cases e : i = j
    · subst e
      have : i < cur.size := by
        by_cases hx : i < cur.size
        · exact hx
        · have := hc i hj; rw [Array.getElem?_eq_none (by omega)] at this; cases this
      simp [this, setU]
    · have e' : ¬ j = i := fun h => e h.symm
      simp [e, setU, e', hc j hj]
theorem OwnU.congr {w : World} {g n : Nat} {F F' : Nat → Int} (h : OwnU w g n F) (e : ∀ i, i < n → F i = F' i) : OwnU w g n F' := by
  obtain ⟨t, cur, hh, hc⟩ := h
  exact ⟨t, cur, hh, fun i hi => by rw [hc i hi, e i hi]⟩
theorem ownU_of_owns {w : World} {base e g n cap : Nat} {F : Nat → Int} (h : w.ownsRow base e 1 (.slice (some ⟨g, 0, none⟩) n cap) n (uCells F n)) : OwnU w g n F ∧ base ≤ g ∧ n ≤ cap := by
  obtain ⟨_, h | ⟨g', cap', cur, hv, hb, hh, hn, hc, hs, ht⟩⟩ := h
  · cases h.1
  · simp only [Value.slice.injEq, Option.some.injEq, Addr.mk.injEq, true_and, and_true] at hv
    obtain ⟨rfl, rfl⟩ := hv
    refine ⟨⟨e, cur, hh, fun i hi => ?_⟩, hb, hn⟩
    have h1 : (cur.toList.take (n * 1))[i]? = (uCells F n)[i]? := by rw [ht]
    rw [List.getElem?_take_of_lt (by omega)] at h1
    have h2 : (uCells F n)[i]? = some (.int .u32 (F i)) := by simp [uCells, hi]
    rw [h2] at h1
    simpa using h1

def bk7G (F : Nat → Int) (g c7 : Nat) (d : Nat) (v : Value) (w : World) : Prop :=
  match d with
  | 27 | 31 | 36 => v = .slice (some ⟨g, 0, none⟩) 8 c7
  | 28 | 32 | 37 => v = .pointer (some ⟨g, 4, none⟩)
  | 29 | 33 | 38 => v = .int .u32 (F 4)
  | 30 => v = .int .u32 (rotN 6 (F 4))
  | 34 => v = .int .u32 (rotN 11 (F 4))
  | 35 => v = .int .u32 (bits .xor .u32 (rotN 6 (F 4)) (rotN 11 (F 4)))
  | 39 => v = .int .u32 (rotN 25 (F 4))
  | 40 => v = .int .u32 (bits .xor .u32 (bits .xor .u32 (rotN 6 (F 4)) (rotN 11 (F 4))) (rotN 25 (F 4)))
  | _ => True
theorem bk7_stable (F : Nat → Int) (g c7 : Nat) {d : Nat} {v : Value} {w w' : World} (hb : Below w.heap.size w w') (h : bk7G F g c7 d v w) : bk7G F g c7 d v w' := by
  unfold bk7G at h ⊢
  split at h
  all_goals exact h
def bk8G (F : Nat → Int) (g c7 : Nat) (d : Nat) (v : Value) (w : World) : Prop :=
  match d with
  | 41 | 44 | 48 | 52 => v = .slice (some ⟨g, 0, none⟩) 8 c7
  | 42 | 49 => v = .pointer (some ⟨g, 4, none⟩)
  | 43 | 50 => v = .int .u32 (F 4)
  | 45 => v = .pointer (some ⟨g, 5, none⟩)
  | 46 => v = .int .u32 (F 5)
  | 47 => v = .int .u32 (bits .and .u32 (F 4) (F 5))
  | 51 => v = .int .u32 (not32 (F 4))
  | 53 => v = .pointer (some ⟨g, 6, none⟩)
  | 54 => v = .int .u32 (F 6)
  | 55 => v = .int .u32 (bits .and .u32 (not32 (F 4)) (F 6))
  | 56 => v = .int .u32 (bits .xor .u32 (bits .and .u32 (F 4) (F 5)) (bits .and .u32 (not32 (F 4)) (F 6)))
  | _ => True
theorem bk8_stable (F : Nat → Int) (g c7 : Nat) {d : Nat} {v : Value} {w w' : World} (hb : Below w.heap.size w w') (h : bk8G F g c7 d v w) : bk8G F g c7 d v w' := by
  unfold bk8G at h ⊢
  split at h
  all_goals exact h
def bk9G (F K W : Nat → Int) (g c7 gk gw cw i : Nat) (a b : Int) (d : Nat) (v : Value) (w : World) : Prop :=
  match d with
  | 57 => v = .slice (some ⟨g, 0, none⟩) 8 c7
  | 58 => v = .pointer (some ⟨g, 7, none⟩)
  | 59 => v = .int .u32 (F 7)
  | 60 => v = .int .u32 a
  | 61 => v = .int .u32 (add32 (F 7) a)
  | 62 => v = .int .u32 b
  | 63 => v = .int .u32 (add32 (add32 (F 7) a) b)
  | 64 => v = .slice (some ⟨gk, 0, none⟩) 64 64
  | 65 | 70 => v = .int .i64 (i : Int)
  | 66 => v = .pointer (some ⟨gk, i, none⟩)
  | 67 => v = .int .u32 (K i)
  | 68 => v = .int .u32 (add32 (add32 (add32 (F 7) a) b) (K i))
  | 69 => v = .slice (some ⟨gw, 0, none⟩) 64 cw
  | 71 => v = .pointer (some ⟨gw, i, none⟩)
  | 72 => v = .int .u32 (W i)
  | 73 => v = .int .u32 (add32 (add32 (add32 (add32 (F 7) a) b) (K i)) (W i))
  | _ => True
theorem bk9_stable (F K W : Nat → Int) (g c7 gk gw cw i : Nat) (a b : Int) {d : Nat} {v : Value} {w w' : World} (hb : Below w.heap.size w w') (h : bk9G F K W g c7 gk gw cw i a b d v w) : bk9G F K W g c7 gk gw cw i a b d v w' := by
  unfold bk9G at h ⊢
  split at h
  all_goals exact h
def bk10G (F : Nat → Int) (g c7 : Nat) (d : Nat) (v : Value) (w : World) : Prop :=
  match d with
  | 74 | 78 | 83 => v = .slice (some ⟨g, 0, none⟩) 8 c7
  | 75 | 79 | 84 => v = .pointer (some ⟨g, 0, none⟩)
  | 76 | 80 | 85 => v = .int .u32 (F 0)
  | 77 => v = .int .u32 (rotN 2 (F 0))
  | 81 => v = .int .u32 (rotN 13 (F 0))
  | 82 => v = .int .u32 (bits .xor .u32 (rotN 2 (F 0)) (rotN 13 (F 0)))
  | 86 => v = .int .u32 (rotN 22 (F 0))
  | 87 => v = .int .u32 (bits .xor .u32 (bits .xor .u32 (rotN 2 (F 0)) (rotN 13 (F 0))) (rotN 22 (F 0)))
  | _ => True
theorem bk10_stable (F : Nat → Int) (g c7 : Nat) {d : Nat} {v : Value} {w w' : World} (hb : Below w.heap.size w w') (h : bk10G F g c7 d v w) : bk10G F g c7 d v w' := by
  unfold bk10G at h ⊢
  split at h
  all_goals exact h
def bk11G (F : Nat → Int) (g c7 : Nat) (d : Nat) (v : Value) (w : World) : Prop :=
  match d with
  | 88 | 91 | 95 | 98 | 103 | 106 => v = .slice (some ⟨g, 0, none⟩) 8 c7
  | 89 | 96 => v = .pointer (some ⟨g, 0, none⟩)
  | 90 | 97 => v = .int .u32 (F 0)
  | 92 | 104 => v = .pointer (some ⟨g, 1, none⟩)
  | 93 | 105 => v = .int .u32 (F 1)
  | 94 => v = .int .u32 (bits .and .u32 (F 0) (F 1))
  | 99 | 107 => v = .pointer (some ⟨g, 2, none⟩)
  | 100 | 108 => v = .int .u32 (F 2)
  | 101 => v = .int .u32 (bits .and .u32 (F 0) (F 2))
  | 102 => v = .int .u32 (bits .xor .u32 (bits .and .u32 (F 0) (F 1)) (bits .and .u32 (F 0) (F 2)))
  | 109 => v = .int .u32 (bits .and .u32 (F 1) (F 2))
  | 110 => v = .int .u32 (bits .xor .u32 (bits .xor .u32 (bits .and .u32 (F 0) (F 1)) (bits .and .u32 (F 0) (F 2))) (bits .and .u32 (F 1) (F 2)))
  | _ => True
theorem bk11_stable (F : Nat → Int) (g c7 : Nat) {d : Nat} {v : Value} {w w' : World} (hb : Below w.heap.size w w') (h : bk11G F g c7 d v w) : bk11G F g c7 d v w' := by
  unfold bk11G at h ⊢
  split at h
  all_goals exact h
def bk22G (H F : Nat → Int) (l : Value) (base ga ca g c7 i : Nat) (d : Nat) (v : Value) (w : World) : Prop :=
  match d with
  | 152 => ∃ h, v = .slice (some ⟨h, 0, none⟩) 1 1 ∧ base ≤ h ∧ w.heap[h]? = some (.cells #[.int .u32 (add32 (H i) (F i))] 29 (0, 0))
  | 142 => v = l
  | 143 => v = .slice (some ⟨ga, 0, none⟩) 8 ca
  | 144 | 148 => v = .int .i64 (i : Int)
  | 145 => v = .pointer (some ⟨ga, i, none⟩)
  | 146 => v = .int .u32 (H i)
  | 147 => v = .slice (some ⟨g, 0, none⟩) 8 c7
  | 149 => v = .pointer (some ⟨g, i, none⟩)
  | 150 => v = .int .u32 (F i)
  | 151 => v = .int .u32 (add32 (H i) (F i))
  | _ => True
theorem bk22_stable (H F : Nat → Int) (l : Value) (base ga ca g c7 i : Nat) {d : Nat} {v : Value} {w w' : World} (hb : Below w.heap.size w w') (h : bk22G H F l base ga ca g c7 i d v w) : bk22G H F l base ga ca g c7 i d v w' := by
  unfold bk22G at h ⊢
  split at h
  · exact row_stable hb h
  all_goals exact h
def kList : List Int := [1116352408, 1899447441, 3049323471, 3921009573, 961987163, 1508970993, 2453635748, 2870763221, 3624381080, 310598401, 607225278, 1426881987, 1925078388, 2162078206, 2614888103, 3248222580, 3835390401, 4022224774, 264347078, 604807628, 770255983, 1249150122, 1555081692, 1996064986, 2554220882, 2821834349, 2952996808, 3210313671, 3336571891, 3584528711, 113926993, 338241895, 666307205, 773529912, 1294757372, 1396182291, 1695183700, 1986661051, 2177026350, 2456956037, 2730485921, 2820302411, 3259730800, 3345764771, 3516065817, 3600352804, 4094571909, 275423344, 430227734, 506948616, 659060556, 883997877, 958139571, 1322822218, 1537002063, 1747873779, 1955562222, 2024104815, 2227730452, 2361852424, 2428436474, 2756734187, 3204031479, 3329325298]
def kF (i : Nat) : Int := kList.getD i 0
theorem kF_bd (i : Nat) : W32 (kF i) := by
  unfold kF
  have h : kList.all (fun z => decide (0 ≤ z ∧ z ≤ 4294967295)) = true := by decide
  rw [List.getD_eq_getElem?_getD]
  cases hx : kList[i]? with
  | none => exact ⟨by simp, by simp⟩
  | some z =>
    have := List.all_eq_true.1 h z (List.mem_of_getElem? hx)
    simpa [W32] using this
set_option maxRecDepth 100000 in
theorem l1Consts_any (w : World) : Calls Tryd.prog 29 #[] w fun e w' => e = .returned (.slice (some ⟨w.heap.size, 0, none⟩) 64 64) ∧ OwnU w' w.heap.size 64 kF ∧ Below w.heap.size w w' := by
  have hb := (Below.refl w.heap.size w).alloc (Nat.le_refl _) (.cells (kList.map (Value.int .u32)).toArray 29)
  have ho : OwnU (w.alloc (.cells (kList.map (Value.int .u32)).toArray 29)) w.heap.size 64 kF := by
    refine ⟨_, _, blk_alloc_new _ _, fun i hi => ?_⟩
    have hl : kList.length = 64 := rfl
    rw [List.getElem?_toArray, List.getElem?_map]
    unfold kF
    rw [List.getD_eq_getElem?_getD, List.getElem?_eq_getElem (by omega)]
    rfl
  have HB := Lib.hid hb
  have HO := Lib.hid ho
  clear hb ho
  go_enter Tryd.func29, Tryd.ntmps29
  go_wp2_with fail
  go_ret
  exact ⟨rfl, HO.out, HB.out⟩

def blkF (H B : Nat → Int) (j : Nat) : Int := add32 (H j) (rnds H kF (sched (word4 B) 48) 64 j)
/-- Words that came in. -/
structure InU (w : World) (a n : Nat) (F : Nat → Int) : Prop where
  c : ∀ i, i < n → w.cell? ⟨a, i, none⟩ = some (.int .u32 (F i))
  lt : a < w.heap.size
theorem InU.below {w w' : World} {a n : Nat} {F : Nat → Int} (h : InU w a n F) (hb : Below w.heap.size w w') : InU w' a n F :=
  ⟨fun i hi => (hb.cell (p := ⟨a, i, none⟩) h.lt).trans (h.c i hi), Nat.lt_of_lt_of_le h.lt hb.size⟩
theorem rnd_bd {F K W : Nat → Int} (h : ∀ i, W32 (F i)) (i j : Nat) : W32 (rnd F K W i j) := by
  unfold rnd
  split
  · unfold W32 add32; omega
  · unfold W32 add32; omega
  · exact h _
theorem rnds_bd {F K W : Nat → Int} (h : ∀ i, W32 (F i)) : ∀ n j, W32 (rnds F K W n j)
  | 0, j => h j
  | n + 1, j => rnd_bd (rnds_bd h n) n j

set_option maxRecDepth 100000 in
set_option maxHeartbeats 8000000 in
theorem l1Block_any (ga ca gb off cb : Nat) (H B : Nat → Int) (w : World) (hH : InU w ga 8 H) (hHb : ∀ i, W32 (H i)) (hB : BytesAt w gb off 64 B) (hcb : 64 ≤ cb) (hca : 8 ≤ ca) :
    Calls Tryd.prog 20 #[.slice (some ⟨ga, 0, none⟩) 8 ca, .slice (some ⟨gb, off, none⟩) 64 cb] w fun e w' => ∃ g c, e = .returned (.slice (some ⟨g, 0, none⟩) 8 c) ∧ w.heap.size ≤ g ∧ OwnU w' g 8 (blkF H B) ∧ 8 ≤ c ∧ Below w.heap.size w w' := by
  obtain ⟨i0, hi0, hz0, hz1, hz2⟩ := info_parts infoU32
  have HBY := Lib.hid hB
  have HHH := Lib.hid hH
  have HHB := Lib.hid hHb
  clear hB hH hHb
  go_enter Tryd.func20, Tryd.ntmps20
  go_wp2_with fail
  refine (l1Words_any gb off cb B w HBY.out hcb).mono ?_
  rintro e w1 ⟨gw, cw, rfl, hw⟩
  obtain ⟨hw1, hw2, hw3⟩ := ownU_of_owns hw.own
  have HW1 := Lib.hid hw1
  have HB1 := Lib.hid hw.b
  clear hw hw1
  go_wp2_with fail
  refine (l1Consts_any w1).mono ?_
  rintro e w2 ⟨rfl, hk, hb⟩
  have HB2 := Lib.hid (HB1.out.trans (hb.mono HB1.out.size))
  have HK2 := Lib.hid hk
  have HW2 := Lib.hid (HW1.out.below hb (Nat.le_refl _))
  have HH2 := Lib.hid (HHH.out.below HB2.out)
  obtain ⟨gk, hgk⟩ : ∃ gk, gk = w1.heap.size := ⟨_, rfl⟩
  rw [← hgk] at HK2 ⊢
  have HGK := Lib.hid hgk
  clear hk hb hgk
  have HST := Lib.hid (World.ownsRow_lit (base := w2.heap.size) (e := 29) (size := 1) w2 #[] 0 (Nat.le_refl _) (by simp [maxLen]) rfl)
  have hnews : ∀ j u, (uCells H 8)[j]? = some u → (w2.alloc (.cells #[] 29)).cell? (Addr.add ⟨ga, 0, none⟩ j) = some u := by
    intro j u hu
    have hj : j < 8 := by
      have := (List.getElem?_eq_some_iff.1 hu).1
      simpa [uCells] using this
    have h2 : (uCells H 8)[j]? = some (.int .u32 (H j)) := by simp [uCells, hj]
    rw [h2] at hu
    cases hu
    have := (HH2.out.below ((Below.refl _ _).alloc (Nat.le_refl _) (.cells #[] 29))).c j hj
    by_cases h0 : j = 0 <;> simp [Addr.add, h0] at * <;> simpa using this
  have HNE := Lib.hid hnews
  clear hnews
  go_wp2_with (at_builtin; go_loud (refine wpList_append_lies _ rfl (.tmp 20) (.tmp 21) 47 rfl w2.heap.size 29 i0 (.int .u32 0) 1 4 Tryd.underlying47 hi0 hz0 hz1 hz2 rfl (by decide) (.slice (some ⟨w2.heap.size, 0, none⟩) 0 0) 0 [] rfl HST.out ⟨ga, 0, none⟩ 8 ca (uCells H 8) rfl rfl HNE.out (by intro u hu; simp only [uCells, List.mem_map] at hu; obtain ⟨i, _, rfl⟩ := hu; rfl) (by decide) (by unfold maxLen; omega) (by omega) (by simp) (w2.heap.size + 1) (by simp) ?_; intro g7 c7 w3 hown hgrow hat hlt3; have HO3 := Lib.hid hown; have HG3 := Lib.hid hgrow; clear hown hgrow hat))
  have h3 := ownU_of_owns (show w3.ownsRow w2.heap.size 29 1 (.slice (some ⟨g7, 0, none⟩) 8 c7) 8 (uCells H 8) by simpa using HO3.out)
  have hal : Below w2.heap.size w2 w3 := ((Below.refl w2.heap.size w2).alloc (Nat.le_refl _) (.cells #[] 29)).grown HG3.out (by simp) (by intro q hq; simp [Value.ownBlock] at hq; omega)
  have HB3 := Lib.hid (HB2.out.trans (hal.mono HB2.out.size))
  have HS3 := Lib.hid h3.1
  have HK3 := Lib.hid (HK2.out.below hal (Nat.le_refl _))
  have HW3 := Lib.hid (HW2.out.below hal (Nat.le_refl _))
  have HH3 := Lib.hid (HH2.out.below hal)
  have hg7 := h3.2.1
  have hc7 := h3.2.2
  have hkl := HK2.out.lt
  have hwl := HW2.out.lt
  have hal2 := HH2.out.lt
  have HB23 := Lib.hid hal
  clear HO3 HG3 HST HNE h3 hal
  have HX : Hid (OwnU w3 g7 8 (rnds H kF (sched (word4 B) 48) 0)) := HS3.out
  obtain ⟨W, hW⟩ : ∃ W, W = sched (word4 B) 48 := ⟨_, rfl⟩
  have HWB : Hid (∀ i, W32 (W i)) := by rw [hW]; exact sched_lo (word4_lo B) _
  rw [← hW] at HX HW3 HW2
  have HWE := Lib.hid hW
  clear hW
  go_wp2_with fail
  go_loopw [8] (fun v w' => ∃ i : Nat, v = .int .i64 i ∧ i ≤ 64 ∧ Below w2.heap.size w2 w' ∧ OwnU w' g7 8 (rnds H kF W i)) (fun v _ => 64 - (intOf v).toNat)
  case atStart => exact ⟨0, rfl, by omega, HB23.out, HX.out⟩
  case round =>
    obtain ⟨i, rfl, hi, hb, ho⟩ := hrel
    obtain ⟨wo, rfl⟩ : ∃ wo, wo = wr := ⟨_, rfl⟩
    clear HX HS3
    have HNX : Hid (rnds H kF W (i + 1) = rnd (rnds H kF W i) kF W i) := rfl
    have HFB := rnds_bd (K := kF) (W := W) HHB.out i
    obtain ⟨F, hF⟩ : ∃ F, F = rnds H kF W i := ⟨_, rfl⟩
    rw [← hF] at ho HNX HFB
    have HF := Lib.hid HFB
    have HFE := Lib.hid hF
    have HBo := Lib.hid hb
    have HO := Lib.hid ho
    have HKo := Lib.hid (HK2.out.below hb (Nat.le_refl _))
    have HWo := Lib.hid (HW2.out.below hb (Nat.le_refl _))
    clear hF HFB hb ho
    by_cases hlt : i < 64
    · have HC_g : Hid (∀ wx, Below wo.heap.size wo wx → ∀ j, j < 8 → wx.cell? ⟨g7, j, none⟩ = some (.int .u32 (F j))) := fun wx h j hj => (HO.out.below h (Nat.le_refl _)).cell hj
      have HC_gk : Hid (∀ wx, Below wo.heap.size wo wx → ∀ j, j < 64 → wx.cell? ⟨gk, j, none⟩ = some (.int .u32 (kF j))) := fun wx h j hj => (HKo.out.below h (Nat.le_refl _)).cell hj
      have HC_gw : Hid (∀ wx, Below wo.heap.size wo wx → ∀ j, j < 64 → wx.cell? ⟨gw, j, none⟩ = some (.int .u32 (W j))) := fun wx h j hj => (HWo.out.below h (Nat.le_refl _)).cell hj
      have HO0 := Lib.hid (Below.refl wo.heap.size wo)
      go_wp2_with fail
      refine wp_region_tail 14 (by decide) (by kernel_rfl) [27, 28, 29, 30, 31, 32, 33, 34, 35, 36, 37, 38, 39, 40]
        (bk7G F g7 c7) (fun n w' => Below wo.heap.size wo w') (fun w w' => Below w.heap.size w w') (fun w => Below.refl _ _) (fun _ _ _ h k => h.trans (k.mono h.size)) ?stable
        [27, 28, 29, 30, 31, 32, 33, 34, 35, 36, 37, 38, 39, 40, 9] (by kernel_rfl) (by kernel_rfl) (by kernel_rfl) ((Below.refl _ _).drew) ?step ?fin
      case stable => exact fun d v w w' hS hG => bk7_stable _ _ _ hS hG
      case step =>
        refine ⟨?_, ?_, ?_, ?_, ?_, ?_, ?_, ?_, ?_, ?_, ?_, ?_, ?_, ?_, trivial⟩
        all_goals intro n f wx hn hI hS haf
        all_goals have HI := Lib.hid hI
        all_goals clear hI hS
        · simp [frameOf, goFrame]; go_simp; exact ⟨HI.out, Below.refl _ _, rfl⟩
        · have h27 : f 27 = .slice (some ⟨g7, 0, none⟩) 8 c7 := (by first | exact haf.1 | exact haf.2.1 | exact haf.2.2.1 | exact haf.2.2.2.1 | exact haf.2.2.2.2.1); simp [frameOf, goFrame, h27]; go_simp; exact ⟨HI.out, Below.refl _ _, rfl⟩
        · have h28 : f 28 = .pointer (some ⟨g7, 4, none⟩) := (by first | exact haf.1 | exact haf.2.1 | exact haf.2.2.1 | exact haf.2.2.2.1 | exact haf.2.2.2.2.1); have cc := HC_g.out wx HI.out 4 (by omega); simp [frameOf, goFrame, h28]; go_simp; exact ⟨HI.out, Below.refl _ _, rfl⟩
        · have h29 : f 29 = .int .u32 (F 4) := (by first | exact haf.1 | exact haf.2.1 | exact haf.2.2.1 | exact haf.2.2.2.1 | exact haf.2.2.2.2.1); simp [frameOf, goFrame, h29]; go_simp; refine (turn_any (F 4) 6 wx ((HF.out 4).1) ((HF.out 4).2) (by unfold isTurn; omega)).mono ?_; rintro e wy ⟨rfl, z, rfl⟩; exact ⟨below_drewN HI.out z, below_drewN (Below.refl _ _) z, rfl⟩
        · simp [frameOf, goFrame]; go_simp; exact ⟨HI.out, Below.refl _ _, rfl⟩
        · have h31 : f 31 = .slice (some ⟨g7, 0, none⟩) 8 c7 := (by first | exact haf.1 | exact haf.2.1 | exact haf.2.2.1 | exact haf.2.2.2.1 | exact haf.2.2.2.2.1); simp [frameOf, goFrame, h31]; go_simp; exact ⟨HI.out, Below.refl _ _, rfl⟩
        · have h32 : f 32 = .pointer (some ⟨g7, 4, none⟩) := (by first | exact haf.1 | exact haf.2.1 | exact haf.2.2.1 | exact haf.2.2.2.1 | exact haf.2.2.2.2.1); have cc := HC_g.out wx HI.out 4 (by omega); simp [frameOf, goFrame, h32]; go_simp; exact ⟨HI.out, Below.refl _ _, rfl⟩
        · have h33 : f 33 = .int .u32 (F 4) := (by first | exact haf.1 | exact haf.2.1 | exact haf.2.2.1 | exact haf.2.2.2.1 | exact haf.2.2.2.2.1); simp [frameOf, goFrame, h33]; go_simp; refine (turn_any (F 4) 11 wx ((HF.out 4).1) ((HF.out 4).2) (by unfold isTurn; omega)).mono ?_; rintro e wy ⟨rfl, z, rfl⟩; exact ⟨below_drewN HI.out z, below_drewN (Below.refl _ _) z, rfl⟩
        · have h30 : f 30 = .int .u32 (rotN 6 (F 4)) := (by first | exact haf.1 | exact haf.2.1 | exact haf.2.2.1 | exact haf.2.2.2.1 | exact haf.2.2.2.2.1); have h34 : f 34 = .int .u32 (rotN 11 (F 4)) := (by first | exact haf.1 | exact haf.2.1 | exact haf.2.2.1 | exact haf.2.2.2.1 | exact haf.2.2.2.2.1); simp [frameOf, goFrame, h30, h34]; go_simp; exact ⟨HI.out, Below.refl _ _, rfl⟩
        · simp [frameOf, goFrame]; go_simp; exact ⟨HI.out, Below.refl _ _, rfl⟩
        · have h36 : f 36 = .slice (some ⟨g7, 0, none⟩) 8 c7 := (by first | exact haf.1 | exact haf.2.1 | exact haf.2.2.1 | exact haf.2.2.2.1 | exact haf.2.2.2.2.1); simp [frameOf, goFrame, h36]; go_simp; exact ⟨HI.out, Below.refl _ _, rfl⟩
        · have h37 : f 37 = .pointer (some ⟨g7, 4, none⟩) := (by first | exact haf.1 | exact haf.2.1 | exact haf.2.2.1 | exact haf.2.2.2.1 | exact haf.2.2.2.2.1); have cc := HC_g.out wx HI.out 4 (by omega); simp [frameOf, goFrame, h37]; go_simp; exact ⟨HI.out, Below.refl _ _, rfl⟩
        · have h38 : f 38 = .int .u32 (F 4) := (by first | exact haf.1 | exact haf.2.1 | exact haf.2.2.1 | exact haf.2.2.2.1 | exact haf.2.2.2.2.1); simp [frameOf, goFrame, h38]; go_simp; refine (turn_any (F 4) 25 wx ((HF.out 4).1) ((HF.out 4).2) (by unfold isTurn; omega)).mono ?_; rintro e wy ⟨rfl, z, rfl⟩; exact ⟨below_drewN HI.out z, below_drewN (Below.refl _ _) z, rfl⟩
        · have h35 : f 35 = .int .u32 (bits .xor .u32 (rotN 6 (F 4)) (rotN 11 (F 4))) := (by first | exact haf.1 | exact haf.2.1 | exact haf.2.2.1 | exact haf.2.2.2.1 | exact haf.2.2.2.2.1); have h39 : f 39 = .int .u32 (rotN 25 (F 4)) := (by first | exact haf.1 | exact haf.2.1 | exact haf.2.2.1 | exact haf.2.2.2.1 | exact haf.2.2.2.2.1); simp [frameOf, goFrame, h35, h39]; go_simp; exact ⟨HI.out, Below.refl _ _, rfl⟩
      case fin =>
        intro n f wx hn hI hS hG
        have h40 : f 40 = .int .u32 (bits .xor .u32 (bits .xor .u32 (rotN 6 (F 4)) (rotN 11 (F 4))) (rotN 25 (F 4))) := hG 13 _ 40 (by decide) rfl rfl
        obtain ⟨wA, rfl⟩ : ∃ wA, wA = wx := ⟨_, rfl⟩
        have HBwA := Lib.hid (bT HO0.out hI HO0.out.size)
        have HD_g : Hid (∀ wx, Below wA.heap.size wA wx → ∀ j, j < 8 → wx.cell? ⟨g7, j, none⟩ = some (.int .u32 (F j))) := fun wx h => HC_g.out wx (bT hI h hI.size)
        have HD_gk : Hid (∀ wx, Below wA.heap.size wA wx → ∀ j, j < 64 → wx.cell? ⟨gk, j, none⟩ = some (.int .u32 (kF j))) := fun wx h => HC_gk.out wx (bT hI h hI.size)
        have HD_gw : Hid (∀ wx, Below wA.heap.size wA wx → ∀ j, j < 64 → wx.cell? ⟨gw, j, none⟩ = some (.int .u32 (W j))) := fun wx h => HC_gw.out wx (bT hI h hI.size)
        clear hG hS hn hI HO0 HC_g HC_gk HC_gw
        have HO0 := HBwA
        have HC_g := HD_g
        have HC_gk := HD_gk
        have HC_gw := HD_gw
        clear HBwA HD_g HD_gk HD_gw
        simp [frameOf, goFrame, TailOk, h40]
        go_simp
        try simp only [TailOk, List.drop]
        go_wp2_with fail
        refine wp_region_tail 16 (by decide) (by kernel_rfl) [41, 42, 43, 44, 45, 46, 47, 48, 49, 50, 51, 52, 53, 54, 55, 56]
          (bk8G F g7 c7) (fun n w' => Below wA.heap.size wA w') (fun w w' => Below w.heap.size w w') (fun w => Below.refl _ _) (fun _ _ _ h k => h.trans (k.mono h.size)) ?stable
          [41, 42, 43, 44, 45, 46, 47, 48, 49, 50, 51, 52, 53, 54, 55, 56, 10] (by kernel_rfl) (by kernel_rfl) (by kernel_rfl) ((Below.refl _ _).drew) ?step ?fin
        case stable => exact fun d v w w' hS hG => bk8_stable _ _ _ hS hG
        case step =>
          refine ⟨?_, ?_, ?_, ?_, ?_, ?_, ?_, ?_, ?_, ?_, ?_, ?_, ?_, ?_, ?_, ?_, trivial⟩
          all_goals intro n f wx hn hI hS haf
          all_goals have HI := Lib.hid hI
          all_goals clear hI hS
          · simp [frameOf, goFrame]; go_simp; exact ⟨HI.out, Below.refl _ _, rfl⟩
          · have h41 : f 41 = .slice (some ⟨g7, 0, none⟩) 8 c7 := (by first | exact haf.1 | exact haf.2.1 | exact haf.2.2.1 | exact haf.2.2.2.1 | exact haf.2.2.2.2.1); simp [frameOf, goFrame, h41]; go_simp; exact ⟨HI.out, Below.refl _ _, rfl⟩
          · have h42 : f 42 = .pointer (some ⟨g7, 4, none⟩) := (by first | exact haf.1 | exact haf.2.1 | exact haf.2.2.1 | exact haf.2.2.2.1 | exact haf.2.2.2.2.1); have cc := HC_g.out wx HI.out 4 (by omega); simp [frameOf, goFrame, h42]; go_simp; exact ⟨HI.out, Below.refl _ _, rfl⟩
          · simp [frameOf, goFrame]; go_simp; exact ⟨HI.out, Below.refl _ _, rfl⟩
          · have h44 : f 44 = .slice (some ⟨g7, 0, none⟩) 8 c7 := (by first | exact haf.1 | exact haf.2.1 | exact haf.2.2.1 | exact haf.2.2.2.1 | exact haf.2.2.2.2.1); simp [frameOf, goFrame, h44]; go_simp; exact ⟨HI.out, Below.refl _ _, rfl⟩
          · have h45 : f 45 = .pointer (some ⟨g7, 5, none⟩) := (by first | exact haf.1 | exact haf.2.1 | exact haf.2.2.1 | exact haf.2.2.2.1 | exact haf.2.2.2.2.1); have cc := HC_g.out wx HI.out 5 (by omega); simp [frameOf, goFrame, h45]; go_simp; exact ⟨HI.out, Below.refl _ _, rfl⟩
          · have h43 : f 43 = .int .u32 (F 4) := (by first | exact haf.1 | exact haf.2.1 | exact haf.2.2.1 | exact haf.2.2.2.1 | exact haf.2.2.2.2.1); have h46 : f 46 = .int .u32 (F 5) := (by first | exact haf.1 | exact haf.2.1 | exact haf.2.2.1 | exact haf.2.2.2.1 | exact haf.2.2.2.2.1); simp [frameOf, goFrame, h43, h46]; go_simp; exact ⟨HI.out, Below.refl _ _, rfl⟩
          · simp [frameOf, goFrame]; go_simp; exact ⟨HI.out, Below.refl _ _, rfl⟩
          · have h48 : f 48 = .slice (some ⟨g7, 0, none⟩) 8 c7 := (by first | exact haf.1 | exact haf.2.1 | exact haf.2.2.1 | exact haf.2.2.2.1 | exact haf.2.2.2.2.1); simp [frameOf, goFrame, h48]; go_simp; exact ⟨HI.out, Below.refl _ _, rfl⟩
          · have h49 : f 49 = .pointer (some ⟨g7, 4, none⟩) := (by first | exact haf.1 | exact haf.2.1 | exact haf.2.2.1 | exact haf.2.2.2.1 | exact haf.2.2.2.2.1); have cc := HC_g.out wx HI.out 4 (by omega); simp [frameOf, goFrame, h49]; go_simp; exact ⟨HI.out, Below.refl _ _, rfl⟩
          · have h50 : f 50 = .int .u32 (F 4) := (by first | exact haf.1 | exact haf.2.1 | exact haf.2.2.1 | exact haf.2.2.2.1 | exact haf.2.2.2.2.1); simp [frameOf, goFrame, h50]; go_simp; exact ⟨HI.out, Below.refl _ _, rfl⟩
          · simp [frameOf, goFrame]; go_simp; exact ⟨HI.out, Below.refl _ _, rfl⟩
          · have h52 : f 52 = .slice (some ⟨g7, 0, none⟩) 8 c7 := (by first | exact haf.1 | exact haf.2.1 | exact haf.2.2.1 | exact haf.2.2.2.1 | exact haf.2.2.2.2.1); simp [frameOf, goFrame, h52]; go_simp; exact ⟨HI.out, Below.refl _ _, rfl⟩
          · have h53 : f 53 = .pointer (some ⟨g7, 6, none⟩) := (by first | exact haf.1 | exact haf.2.1 | exact haf.2.2.1 | exact haf.2.2.2.1 | exact haf.2.2.2.2.1); have cc := HC_g.out wx HI.out 6 (by omega); simp [frameOf, goFrame, h53]; go_simp; exact ⟨HI.out, Below.refl _ _, rfl⟩
          · have h51 : f 51 = .int .u32 (not32 (F 4)) := (by first | exact haf.1 | exact haf.2.1 | exact haf.2.2.1 | exact haf.2.2.2.1 | exact haf.2.2.2.2.1); have h54 : f 54 = .int .u32 (F 6) := (by first | exact haf.1 | exact haf.2.1 | exact haf.2.2.1 | exact haf.2.2.2.1 | exact haf.2.2.2.2.1); simp [frameOf, goFrame, h51, h54]; go_simp; exact ⟨HI.out, Below.refl _ _, rfl⟩
          · have h47 : f 47 = .int .u32 (bits .and .u32 (F 4) (F 5)) := (by first | exact haf.1 | exact haf.2.1 | exact haf.2.2.1 | exact haf.2.2.2.1 | exact haf.2.2.2.2.1); have h55 : f 55 = .int .u32 (bits .and .u32 (not32 (F 4)) (F 6)) := (by first | exact haf.1 | exact haf.2.1 | exact haf.2.2.1 | exact haf.2.2.2.1 | exact haf.2.2.2.2.1); simp [frameOf, goFrame, h47, h55]; go_simp; exact ⟨HI.out, Below.refl _ _, rfl⟩
        case fin =>
          intro n f wx hn hI hS hG
          have h56 : f 56 = .int .u32 (bits .xor .u32 (bits .and .u32 (F 4) (F 5)) (bits .and .u32 (not32 (F 4)) (F 6))) := hG 15 _ 56 (by decide) rfl rfl
          obtain ⟨wB, rfl⟩ : ∃ wB, wB = wx := ⟨_, rfl⟩
          have HBwB := Lib.hid (bT HO0.out hI HO0.out.size)
          have HD_g : Hid (∀ wx, Below wB.heap.size wB wx → ∀ j, j < 8 → wx.cell? ⟨g7, j, none⟩ = some (.int .u32 (F j))) := fun wx h => HC_g.out wx (bT hI h hI.size)
          have HD_gk : Hid (∀ wx, Below wB.heap.size wB wx → ∀ j, j < 64 → wx.cell? ⟨gk, j, none⟩ = some (.int .u32 (kF j))) := fun wx h => HC_gk.out wx (bT hI h hI.size)
          have HD_gw : Hid (∀ wx, Below wB.heap.size wB wx → ∀ j, j < 64 → wx.cell? ⟨gw, j, none⟩ = some (.int .u32 (W j))) := fun wx h => HC_gw.out wx (bT hI h hI.size)
          clear hG hS hn hI HO0 HC_g HC_gk HC_gw
          have HO0 := HBwB
          have HC_g := HD_g
          have HC_gk := HD_gk
          have HC_gw := HD_gw
          clear HBwB HD_g HD_gk HD_gw
          simp [frameOf, goFrame, TailOk, h56]
          go_simp
          try simp only [TailOk, List.drop]
          go_wp2_with fail
          refine wp_region_tail 17 (by decide) (by kernel_rfl) [57, 58, 59, 60, 61, 62, 63, 64, 65, 66, 67, 68, 69, 70, 71, 72, 73]
            (bk9G F kF W g7 c7 gk gw cw i (S1 (F 4)) (chF (F 4) (F 5) (F 6))) (fun n w' => Below wB.heap.size wB w') (fun w w' => Below w.heap.size w w') (fun w => Below.refl _ _) (fun _ _ _ h k => h.trans (k.mono h.size)) ?stable
            [57, 58, 59, 60, 61, 62, 63, 64, 65, 66, 67, 68, 69, 70, 71, 72, 73, 11] (by kernel_rfl) (by kernel_rfl) (by kernel_rfl) ((Below.refl _ _).drew) ?step ?fin
          case stable => exact fun d v w w' hS hG => bk9_stable _ _ _ _ _ _ _ _ _ _ _ hS hG
          case step =>
            refine ⟨?_, ?_, ?_, ?_, ?_, ?_, ?_, ?_, ?_, ?_, ?_, ?_, ?_, ?_, ?_, ?_, ?_, trivial⟩
            all_goals intro n f wx hn hI hS haf
            all_goals have HI := Lib.hid hI
            all_goals clear hI hS
            · simp [frameOf, goFrame]; go_simp; exact ⟨HI.out, Below.refl _ _, rfl⟩
            · have h57 : f 57 = .slice (some ⟨g7, 0, none⟩) 8 c7 := (by first | exact haf.1 | exact haf.2.1 | exact haf.2.2.1 | exact haf.2.2.2.1 | exact haf.2.2.2.2.1); simp [frameOf, goFrame, h57]; go_simp; exact ⟨HI.out, Below.refl _ _, rfl⟩
            · have h58 : f 58 = .pointer (some ⟨g7, 7, none⟩) := (by first | exact haf.1 | exact haf.2.1 | exact haf.2.2.1 | exact haf.2.2.2.1 | exact haf.2.2.2.2.1); have cc := HC_g.out wx HI.out 7 (by omega); simp [frameOf, goFrame, h58]; go_simp; exact ⟨HI.out, Below.refl _ _, rfl⟩
            · simp [frameOf, goFrame]; go_simp; exact ⟨HI.out, Below.refl _ _, rfl⟩
            · have h59 : f 59 = .int .u32 (F 7) := (by first | exact haf.1 | exact haf.2.1 | exact haf.2.2.1 | exact haf.2.2.2.1 | exact haf.2.2.2.2.1); have h60 : f 60 = .int .u32 (S1 (F 4)) := (by first | exact haf.1 | exact haf.2.1 | exact haf.2.2.1 | exact haf.2.2.2.1 | exact haf.2.2.2.2.1); simp [frameOf, goFrame, h59, h60]; go_simp; exact ⟨HI.out, Below.refl _ _, rfl⟩
            · simp [frameOf, goFrame]; go_simp; exact ⟨HI.out, Below.refl _ _, rfl⟩
            · have h61 : f 61 = .int .u32 (add32 (F 7) (S1 (F 4))) := (by first | exact haf.1 | exact haf.2.1 | exact haf.2.2.1 | exact haf.2.2.2.1 | exact haf.2.2.2.2.1); have h62 : f 62 = .int .u32 (chF (F 4) (F 5) (F 6)) := (by first | exact haf.1 | exact haf.2.1 | exact haf.2.2.1 | exact haf.2.2.2.1 | exact haf.2.2.2.2.1); simp [frameOf, goFrame, h61, h62]; go_simp; exact ⟨HI.out, Below.refl _ _, rfl⟩
            · simp [frameOf, goFrame]; go_simp; exact ⟨HI.out, Below.refl _ _, rfl⟩
            · simp [frameOf, goFrame]; go_simp; exact ⟨HI.out, Below.refl _ _, rfl⟩
            · have h64 : f 64 = .slice (some ⟨gk, 0, none⟩) 64 64 := (by first | exact haf.1 | exact haf.2.1 | exact haf.2.2.1 | exact haf.2.2.2.1 | exact haf.2.2.2.2.1); have h65 : f 65 = .int .i64 (i : Int) := (by first | exact haf.1 | exact haf.2.1 | exact haf.2.2.1 | exact haf.2.2.2.1 | exact haf.2.2.2.2.1); have yy : 0 ≤ (i : Int) ∧ (i : Int) < 64 := ⟨by omega, by omega⟩; have tt : ((i : Int)).toNat = i := (by omega); simp [frameOf, goFrame, h64, h65]; go_simp; exact ⟨HI.out, Below.refl _ _, rfl⟩
            · have h66 : f 66 = .pointer (some ⟨gk, i, none⟩) := (by first | exact haf.1 | exact haf.2.1 | exact haf.2.2.1 | exact haf.2.2.2.1 | exact haf.2.2.2.2.1); have cc := HC_gk.out wx HI.out i (by omega); simp [frameOf, goFrame, h66]; go_simp; exact ⟨HI.out, Below.refl _ _, rfl⟩
            · have h63 : f 63 = .int .u32 (add32 (add32 (F 7) (S1 (F 4))) (chF (F 4) (F 5) (F 6))) := (by first | exact haf.1 | exact haf.2.1 | exact haf.2.2.1 | exact haf.2.2.2.1 | exact haf.2.2.2.2.1); have h67 : f 67 = .int .u32 (kF i) := (by first | exact haf.1 | exact haf.2.1 | exact haf.2.2.1 | exact haf.2.2.2.1 | exact haf.2.2.2.2.1); simp [frameOf, goFrame, h63, h67]; go_simp; exact ⟨HI.out, Below.refl _ _, rfl⟩
            · simp [frameOf, goFrame]; go_simp; exact ⟨HI.out, Below.refl _ _, rfl⟩
            · simp [frameOf, goFrame]; go_simp; exact ⟨HI.out, Below.refl _ _, rfl⟩
            · have h69 : f 69 = .slice (some ⟨gw, 0, none⟩) 64 cw := (by first | exact haf.1 | exact haf.2.1 | exact haf.2.2.1 | exact haf.2.2.2.1 | exact haf.2.2.2.2.1); have h70 : f 70 = .int .i64 (i : Int) := (by first | exact haf.1 | exact haf.2.1 | exact haf.2.2.1 | exact haf.2.2.2.1 | exact haf.2.2.2.2.1); have yy : 0 ≤ (i : Int) ∧ (i : Int) < 64 := ⟨by omega, by omega⟩; have tt : ((i : Int)).toNat = i := (by omega); simp [frameOf, goFrame, h69, h70]; go_simp; exact ⟨HI.out, Below.refl _ _, rfl⟩
            · have h71 : f 71 = .pointer (some ⟨gw, i, none⟩) := (by first | exact haf.1 | exact haf.2.1 | exact haf.2.2.1 | exact haf.2.2.2.1 | exact haf.2.2.2.2.1); have cc := HC_gw.out wx HI.out i (by omega); simp [frameOf, goFrame, h71]; go_simp; exact ⟨HI.out, Below.refl _ _, rfl⟩
            · have h68 : f 68 = .int .u32 (add32 (add32 (add32 (F 7) (S1 (F 4))) (chF (F 4) (F 5) (F 6))) (kF i)) := (by first | exact haf.1 | exact haf.2.1 | exact haf.2.2.1 | exact haf.2.2.2.1 | exact haf.2.2.2.2.1); have h72 : f 72 = .int .u32 (W i) := (by first | exact haf.1 | exact haf.2.1 | exact haf.2.2.1 | exact haf.2.2.2.1 | exact haf.2.2.2.2.1); simp [frameOf, goFrame, h68, h72]; go_simp; exact ⟨HI.out, Below.refl _ _, rfl⟩
          case fin =>
            intro n f wx hn hI hS hG
            have h73 : f 73 = .int .u32 (add32 (add32 (add32 (add32 (F 7) (S1 (F 4))) (chF (F 4) (F 5) (F 6))) (kF i)) (W i)) := hG 16 _ 73 (by decide) rfl rfl
            obtain ⟨wC, rfl⟩ : ∃ wC, wC = wx := ⟨_, rfl⟩
            have HBwC := Lib.hid (bT HO0.out hI HO0.out.size)
            have HD_g : Hid (∀ wx, Below wC.heap.size wC wx → ∀ j, j < 8 → wx.cell? ⟨g7, j, none⟩ = some (.int .u32 (F j))) := fun wx h => HC_g.out wx (bT hI h hI.size)
            have HD_gk : Hid (∀ wx, Below wC.heap.size wC wx → ∀ j, j < 64 → wx.cell? ⟨gk, j, none⟩ = some (.int .u32 (kF j))) := fun wx h => HC_gk.out wx (bT hI h hI.size)
            have HD_gw : Hid (∀ wx, Below wC.heap.size wC wx → ∀ j, j < 64 → wx.cell? ⟨gw, j, none⟩ = some (.int .u32 (W j))) := fun wx h => HC_gw.out wx (bT hI h hI.size)
            clear hG hS hn hI HO0 HC_g HC_gk HC_gw
            have HO0 := HBwC
            have HC_g := HD_g
            have HC_gk := HD_gk
            have HC_gw := HD_gw
            clear HBwC HD_g HD_gk HD_gw
            simp [frameOf, goFrame, TailOk, h73]
            go_simp
            try simp only [TailOk, List.drop]
            go_wp2_with fail
            refine wp_region_tail 14 (by decide) (by kernel_rfl) [74, 75, 76, 77, 78, 79, 80, 81, 82, 83, 84, 85, 86, 87]
              (bk10G F g7 c7) (fun n w' => Below wC.heap.size wC w') (fun w w' => Below w.heap.size w w') (fun w => Below.refl _ _) (fun _ _ _ h k => h.trans (k.mono h.size)) ?stable
              [74, 75, 76, 77, 78, 79, 80, 81, 82, 83, 84, 85, 86, 87, 12] (by kernel_rfl) (by kernel_rfl) (by kernel_rfl) ((Below.refl _ _).drew) ?step ?fin
            case stable => exact fun d v w w' hS hG => bk10_stable _ _ _ hS hG
            case step =>
              refine ⟨?_, ?_, ?_, ?_, ?_, ?_, ?_, ?_, ?_, ?_, ?_, ?_, ?_, ?_, trivial⟩
              all_goals intro n f wx hn hI hS haf
              all_goals have HI := Lib.hid hI
              all_goals clear hI hS
              · simp [frameOf, goFrame]; go_simp; exact ⟨HI.out, Below.refl _ _, rfl⟩
              · have h74 : f 74 = .slice (some ⟨g7, 0, none⟩) 8 c7 := (by first | exact haf.1 | exact haf.2.1 | exact haf.2.2.1 | exact haf.2.2.2.1 | exact haf.2.2.2.2.1); simp [frameOf, goFrame, h74]; go_simp; exact ⟨HI.out, Below.refl _ _, rfl⟩
              · have h75 : f 75 = .pointer (some ⟨g7, 0, none⟩) := (by first | exact haf.1 | exact haf.2.1 | exact haf.2.2.1 | exact haf.2.2.2.1 | exact haf.2.2.2.2.1); have cc := HC_g.out wx HI.out 0 (by omega); simp [frameOf, goFrame, h75]; go_simp; exact ⟨HI.out, Below.refl _ _, rfl⟩
              · have h76 : f 76 = .int .u32 (F 0) := (by first | exact haf.1 | exact haf.2.1 | exact haf.2.2.1 | exact haf.2.2.2.1 | exact haf.2.2.2.2.1); simp [frameOf, goFrame, h76]; go_simp; refine (turn_any (F 0) 2 wx ((HF.out 0).1) ((HF.out 0).2) (by unfold isTurn; omega)).mono ?_; rintro e wy ⟨rfl, z, rfl⟩; exact ⟨below_drewN HI.out z, below_drewN (Below.refl _ _) z, rfl⟩
              · simp [frameOf, goFrame]; go_simp; exact ⟨HI.out, Below.refl _ _, rfl⟩
              · have h78 : f 78 = .slice (some ⟨g7, 0, none⟩) 8 c7 := (by first | exact haf.1 | exact haf.2.1 | exact haf.2.2.1 | exact haf.2.2.2.1 | exact haf.2.2.2.2.1); simp [frameOf, goFrame, h78]; go_simp; exact ⟨HI.out, Below.refl _ _, rfl⟩
              · have h79 : f 79 = .pointer (some ⟨g7, 0, none⟩) := (by first | exact haf.1 | exact haf.2.1 | exact haf.2.2.1 | exact haf.2.2.2.1 | exact haf.2.2.2.2.1); have cc := HC_g.out wx HI.out 0 (by omega); simp [frameOf, goFrame, h79]; go_simp; exact ⟨HI.out, Below.refl _ _, rfl⟩
              · have h80 : f 80 = .int .u32 (F 0) := (by first | exact haf.1 | exact haf.2.1 | exact haf.2.2.1 | exact haf.2.2.2.1 | exact haf.2.2.2.2.1); simp [frameOf, goFrame, h80]; go_simp; refine (turn_any (F 0) 13 wx ((HF.out 0).1) ((HF.out 0).2) (by unfold isTurn; omega)).mono ?_; rintro e wy ⟨rfl, z, rfl⟩; exact ⟨below_drewN HI.out z, below_drewN (Below.refl _ _) z, rfl⟩
              · have h77 : f 77 = .int .u32 (rotN 2 (F 0)) := (by first | exact haf.1 | exact haf.2.1 | exact haf.2.2.1 | exact haf.2.2.2.1 | exact haf.2.2.2.2.1); have h81 : f 81 = .int .u32 (rotN 13 (F 0)) := (by first | exact haf.1 | exact haf.2.1 | exact haf.2.2.1 | exact haf.2.2.2.1 | exact haf.2.2.2.2.1); simp [frameOf, goFrame, h77, h81]; go_simp; exact ⟨HI.out, Below.refl _ _, rfl⟩
              · simp [frameOf, goFrame]; go_simp; exact ⟨HI.out, Below.refl _ _, rfl⟩
              · have h83 : f 83 = .slice (some ⟨g7, 0, none⟩) 8 c7 := (by first | exact haf.1 | exact haf.2.1 | exact haf.2.2.1 | exact haf.2.2.2.1 | exact haf.2.2.2.2.1); simp [frameOf, goFrame, h83]; go_simp; exact ⟨HI.out, Below.refl _ _, rfl⟩
              · have h84 : f 84 = .pointer (some ⟨g7, 0, none⟩) := (by first | exact haf.1 | exact haf.2.1 | exact haf.2.2.1 | exact haf.2.2.2.1 | exact haf.2.2.2.2.1); have cc := HC_g.out wx HI.out 0 (by omega); simp [frameOf, goFrame, h84]; go_simp; exact ⟨HI.out, Below.refl _ _, rfl⟩
              · have h85 : f 85 = .int .u32 (F 0) := (by first | exact haf.1 | exact haf.2.1 | exact haf.2.2.1 | exact haf.2.2.2.1 | exact haf.2.2.2.2.1); simp [frameOf, goFrame, h85]; go_simp; refine (turn_any (F 0) 22 wx ((HF.out 0).1) ((HF.out 0).2) (by unfold isTurn; omega)).mono ?_; rintro e wy ⟨rfl, z, rfl⟩; exact ⟨below_drewN HI.out z, below_drewN (Below.refl _ _) z, rfl⟩
              · have h82 : f 82 = .int .u32 (bits .xor .u32 (rotN 2 (F 0)) (rotN 13 (F 0))) := (by first | exact haf.1 | exact haf.2.1 | exact haf.2.2.1 | exact haf.2.2.2.1 | exact haf.2.2.2.2.1); have h86 : f 86 = .int .u32 (rotN 22 (F 0)) := (by first | exact haf.1 | exact haf.2.1 | exact haf.2.2.1 | exact haf.2.2.2.1 | exact haf.2.2.2.2.1); simp [frameOf, goFrame, h82, h86]; go_simp; exact ⟨HI.out, Below.refl _ _, rfl⟩
            case fin =>
              intro n f wx hn hI hS hG
              have h87 : f 87 = .int .u32 (bits .xor .u32 (bits .xor .u32 (rotN 2 (F 0)) (rotN 13 (F 0))) (rotN 22 (F 0))) := hG 13 _ 87 (by decide) rfl rfl
              obtain ⟨wD, rfl⟩ : ∃ wD, wD = wx := ⟨_, rfl⟩
              have HBwD := Lib.hid (bT HO0.out hI HO0.out.size)
              have HD_g : Hid (∀ wx, Below wD.heap.size wD wx → ∀ j, j < 8 → wx.cell? ⟨g7, j, none⟩ = some (.int .u32 (F j))) := fun wx h => HC_g.out wx (bT hI h hI.size)
              have HD_gk : Hid (∀ wx, Below wD.heap.size wD wx → ∀ j, j < 64 → wx.cell? ⟨gk, j, none⟩ = some (.int .u32 (kF j))) := fun wx h => HC_gk.out wx (bT hI h hI.size)
              have HD_gw : Hid (∀ wx, Below wD.heap.size wD wx → ∀ j, j < 64 → wx.cell? ⟨gw, j, none⟩ = some (.int .u32 (W j))) := fun wx h => HC_gw.out wx (bT hI h hI.size)
              clear hG hS hn hI HO0 HC_g HC_gk HC_gw
              have HO0 := HBwD
              have HC_g := HD_g
              have HC_gk := HD_gk
              have HC_gw := HD_gw
              clear HBwD HD_g HD_gk HD_gw
              simp [frameOf, goFrame, TailOk, h87]
              go_simp
              try simp only [TailOk, List.drop]
              go_wp2_with fail
              refine wp_region_tail 23 (by decide) (by kernel_rfl) [88, 89, 90, 91, 92, 93, 94, 95, 96, 97, 98, 99, 100, 101, 102, 103, 104, 105, 106, 107, 108, 109, 110]
                (bk11G F g7 c7) (fun n w' => Below wD.heap.size wD w') (fun w w' => Below w.heap.size w w') (fun w => Below.refl _ _) (fun _ _ _ h k => h.trans (k.mono h.size)) ?stable
                [88, 89, 90, 91, 92, 93, 94, 95, 96, 97, 98, 99, 100, 101, 102, 103, 104, 105, 106, 107, 108, 109, 110, 13] (by kernel_rfl) (by kernel_rfl) (by kernel_rfl) ((Below.refl _ _).drew) ?step ?fin
              case stable => exact fun d v w w' hS hG => bk11_stable _ _ _ hS hG
              case step =>
                refine ⟨?_, ?_, ?_, ?_, ?_, ?_, ?_, ?_, ?_, ?_, ?_, ?_, ?_, ?_, ?_, ?_, ?_, ?_, ?_, ?_, ?_, ?_, ?_, trivial⟩
                all_goals intro n f wx hn hI hS haf
                all_goals have HI := Lib.hid hI
                all_goals clear hI hS
                · simp [frameOf, goFrame]; go_simp; exact ⟨HI.out, Below.refl _ _, rfl⟩
                · have h88 : f 88 = .slice (some ⟨g7, 0, none⟩) 8 c7 := (by first | exact haf.1 | exact haf.2.1 | exact haf.2.2.1 | exact haf.2.2.2.1 | exact haf.2.2.2.2.1); simp [frameOf, goFrame, h88]; go_simp; exact ⟨HI.out, Below.refl _ _, rfl⟩
                · have h89 : f 89 = .pointer (some ⟨g7, 0, none⟩) := (by first | exact haf.1 | exact haf.2.1 | exact haf.2.2.1 | exact haf.2.2.2.1 | exact haf.2.2.2.2.1); have cc := HC_g.out wx HI.out 0 (by omega); simp [frameOf, goFrame, h89]; go_simp; exact ⟨HI.out, Below.refl _ _, rfl⟩
                · simp [frameOf, goFrame]; go_simp; exact ⟨HI.out, Below.refl _ _, rfl⟩
                · have h91 : f 91 = .slice (some ⟨g7, 0, none⟩) 8 c7 := (by first | exact haf.1 | exact haf.2.1 | exact haf.2.2.1 | exact haf.2.2.2.1 | exact haf.2.2.2.2.1); simp [frameOf, goFrame, h91]; go_simp; exact ⟨HI.out, Below.refl _ _, rfl⟩
                · have h92 : f 92 = .pointer (some ⟨g7, 1, none⟩) := (by first | exact haf.1 | exact haf.2.1 | exact haf.2.2.1 | exact haf.2.2.2.1 | exact haf.2.2.2.2.1); have cc := HC_g.out wx HI.out 1 (by omega); simp [frameOf, goFrame, h92]; go_simp; exact ⟨HI.out, Below.refl _ _, rfl⟩
                · have h90 : f 90 = .int .u32 (F 0) := (by first | exact haf.1 | exact haf.2.1 | exact haf.2.2.1 | exact haf.2.2.2.1 | exact haf.2.2.2.2.1); have h93 : f 93 = .int .u32 (F 1) := (by first | exact haf.1 | exact haf.2.1 | exact haf.2.2.1 | exact haf.2.2.2.1 | exact haf.2.2.2.2.1); simp [frameOf, goFrame, h90, h93]; go_simp; exact ⟨HI.out, Below.refl _ _, rfl⟩
                · simp [frameOf, goFrame]; go_simp; exact ⟨HI.out, Below.refl _ _, rfl⟩
                · have h95 : f 95 = .slice (some ⟨g7, 0, none⟩) 8 c7 := (by first | exact haf.1 | exact haf.2.1 | exact haf.2.2.1 | exact haf.2.2.2.1 | exact haf.2.2.2.2.1); simp [frameOf, goFrame, h95]; go_simp; exact ⟨HI.out, Below.refl _ _, rfl⟩
                · have h96 : f 96 = .pointer (some ⟨g7, 0, none⟩) := (by first | exact haf.1 | exact haf.2.1 | exact haf.2.2.1 | exact haf.2.2.2.1 | exact haf.2.2.2.2.1); have cc := HC_g.out wx HI.out 0 (by omega); simp [frameOf, goFrame, h96]; go_simp; exact ⟨HI.out, Below.refl _ _, rfl⟩
                · simp [frameOf, goFrame]; go_simp; exact ⟨HI.out, Below.refl _ _, rfl⟩
                · have h98 : f 98 = .slice (some ⟨g7, 0, none⟩) 8 c7 := (by first | exact haf.1 | exact haf.2.1 | exact haf.2.2.1 | exact haf.2.2.2.1 | exact haf.2.2.2.2.1); simp [frameOf, goFrame, h98]; go_simp; exact ⟨HI.out, Below.refl _ _, rfl⟩
                · have h99 : f 99 = .pointer (some ⟨g7, 2, none⟩) := (by first | exact haf.1 | exact haf.2.1 | exact haf.2.2.1 | exact haf.2.2.2.1 | exact haf.2.2.2.2.1); have cc := HC_g.out wx HI.out 2 (by omega); simp [frameOf, goFrame, h99]; go_simp; exact ⟨HI.out, Below.refl _ _, rfl⟩
                · have h97 : f 97 = .int .u32 (F 0) := (by first | exact haf.1 | exact haf.2.1 | exact haf.2.2.1 | exact haf.2.2.2.1 | exact haf.2.2.2.2.1); have h100 : f 100 = .int .u32 (F 2) := (by first | exact haf.1 | exact haf.2.1 | exact haf.2.2.1 | exact haf.2.2.2.1 | exact haf.2.2.2.2.1); simp [frameOf, goFrame, h97, h100]; go_simp; exact ⟨HI.out, Below.refl _ _, rfl⟩
                · have h94 : f 94 = .int .u32 (bits .and .u32 (F 0) (F 1)) := (by first | exact haf.1 | exact haf.2.1 | exact haf.2.2.1 | exact haf.2.2.2.1 | exact haf.2.2.2.2.1); have h101 : f 101 = .int .u32 (bits .and .u32 (F 0) (F 2)) := (by first | exact haf.1 | exact haf.2.1 | exact haf.2.2.1 | exact haf.2.2.2.1 | exact haf.2.2.2.2.1); simp [frameOf, goFrame, h94, h101]; go_simp; exact ⟨HI.out, Below.refl _ _, rfl⟩
                · simp [frameOf, goFrame]; go_simp; exact ⟨HI.out, Below.refl _ _, rfl⟩
                · have h103 : f 103 = .slice (some ⟨g7, 0, none⟩) 8 c7 := (by first | exact haf.1 | exact haf.2.1 | exact haf.2.2.1 | exact haf.2.2.2.1 | exact haf.2.2.2.2.1); simp [frameOf, goFrame, h103]; go_simp; exact ⟨HI.out, Below.refl _ _, rfl⟩
                · have h104 : f 104 = .pointer (some ⟨g7, 1, none⟩) := (by first | exact haf.1 | exact haf.2.1 | exact haf.2.2.1 | exact haf.2.2.2.1 | exact haf.2.2.2.2.1); have cc := HC_g.out wx HI.out 1 (by omega); simp [frameOf, goFrame, h104]; go_simp; exact ⟨HI.out, Below.refl _ _, rfl⟩
                · simp [frameOf, goFrame]; go_simp; exact ⟨HI.out, Below.refl _ _, rfl⟩
                · have h106 : f 106 = .slice (some ⟨g7, 0, none⟩) 8 c7 := (by first | exact haf.1 | exact haf.2.1 | exact haf.2.2.1 | exact haf.2.2.2.1 | exact haf.2.2.2.2.1); simp [frameOf, goFrame, h106]; go_simp; exact ⟨HI.out, Below.refl _ _, rfl⟩
                · have h107 : f 107 = .pointer (some ⟨g7, 2, none⟩) := (by first | exact haf.1 | exact haf.2.1 | exact haf.2.2.1 | exact haf.2.2.2.1 | exact haf.2.2.2.2.1); have cc := HC_g.out wx HI.out 2 (by omega); simp [frameOf, goFrame, h107]; go_simp; exact ⟨HI.out, Below.refl _ _, rfl⟩
                · have h105 : f 105 = .int .u32 (F 1) := (by first | exact haf.1 | exact haf.2.1 | exact haf.2.2.1 | exact haf.2.2.2.1 | exact haf.2.2.2.2.1); have h108 : f 108 = .int .u32 (F 2) := (by first | exact haf.1 | exact haf.2.1 | exact haf.2.2.1 | exact haf.2.2.2.1 | exact haf.2.2.2.2.1); simp [frameOf, goFrame, h105, h108]; go_simp; exact ⟨HI.out, Below.refl _ _, rfl⟩
                · have h102 : f 102 = .int .u32 (bits .xor .u32 (bits .and .u32 (F 0) (F 1)) (bits .and .u32 (F 0) (F 2))) := (by first | exact haf.1 | exact haf.2.1 | exact haf.2.2.1 | exact haf.2.2.2.1 | exact haf.2.2.2.2.1); have h109 : f 109 = .int .u32 (bits .and .u32 (F 1) (F 2)) := (by first | exact haf.1 | exact haf.2.1 | exact haf.2.2.1 | exact haf.2.2.2.1 | exact haf.2.2.2.2.1); simp [frameOf, goFrame, h102, h109]; go_simp; exact ⟨HI.out, Below.refl _ _, rfl⟩
              case fin =>
                intro n f wx hn hI hS hG
                have h110 : f 110 = .int .u32 (bits .xor .u32 (bits .xor .u32 (bits .and .u32 (F 0) (F 1)) (bits .and .u32 (F 0) (F 2))) (bits .and .u32 (F 1) (F 2))) := hG 22 _ 110 (by decide) rfl rfl
                obtain ⟨wE, rfl⟩ : ∃ wE, wE = wx := ⟨_, rfl⟩
                have HBwE := Lib.hid (bT HO0.out hI HO0.out.size)
                have HD_g : Hid (∀ wx, Below wE.heap.size wE wx → ∀ j, j < 8 → wx.cell? ⟨g7, j, none⟩ = some (.int .u32 (F j))) := fun wx h => HC_g.out wx (bT hI h hI.size)
                have HD_gk : Hid (∀ wx, Below wE.heap.size wE wx → ∀ j, j < 64 → wx.cell? ⟨gk, j, none⟩ = some (.int .u32 (kF j))) := fun wx h => HC_gk.out wx (bT hI h hI.size)
                have HD_gw : Hid (∀ wx, Below wE.heap.size wE wx → ∀ j, j < 64 → wx.cell? ⟨gw, j, none⟩ = some (.int .u32 (W j))) := fun wx h => HC_gw.out wx (bT hI h hI.size)
                clear hG hS hn hI HO0 HC_g HC_gk HC_gw
                have HO0 := HBwE
                have HC_g := HD_g
                have HC_gk := HD_gk
                have HC_gw := HD_gw
                clear HBwE HD_g HD_gk HD_gw
                simp [frameOf, goFrame, TailOk, h110]
                go_simp
                try simp only [TailOk, List.drop]
                go_wp2_with fail
                obtain ⟨t1, ht1⟩ : ∃ t, t = add32 (add32 (add32 (add32 (F 7) (S1 (F 4))) (chF (F 4) (F 5) (F 6))) (kF i)) (W i) := ⟨_, rfl⟩
                obtain ⟨a1, ha1⟩ : ∃ t, t = bits .xor .u32 (bits .xor .u32 (rotN 2 (F 0)) (rotN 13 (F 0))) (rotN 22 (F 0)) := ⟨_, rfl⟩
                obtain ⟨m1, hm1⟩ : ∃ t, t = bits .xor .u32 (bits .xor .u32 (bits .and .u32 (F 0) (F 1)) (bits .and .u32 (F 0) (F 2))) (bits .and .u32 (F 1) (F 2)) := ⟨_, rfl⟩
                rw [← ht1, ← ha1, ← hm1]
                have HT1 : Hid (t1 = oneF F kF W i) := ht1
                have HA1 : Hid (a1 = S0 (F 0)) := ha1
                have HM1 : Hid (m1 = majF (F 0) (F 1) (F 2)) := hm1
                have HSE : Hid (OwnU wE g7 8 (shF F 7)) := (HO.out.below HO0.out (Nat.le_refl _)).congr fun j hj => by
                  have : ¬ 7 < j := by omega
                  simp [shF, this]
                have HBE := Lib.hid (HBo.out.trans (HO0.out.mono HBo.out.size))
                clear ht1 ha1 hm1 HC_g HC_gk HC_gw h110
                go_loopw [14] (fun v w' => ∃ n : Nat, v = .int .i64 n ∧ n ≤ 7 ∧ Below w2.heap.size w2 w' ∧ OwnU w' g7 8 (shF F n)) (fun v _ => (intOf v).toNat)
                case atStart => exact ⟨7, rfl, by omega, HBE.out, HSE.out⟩
                case round =>
                  obtain ⟨n, rfl, hn, hb, ho⟩ := hrel
                  obtain ⟨wq, rfl⟩ : ∃ wq, wq = wr := ⟨_, rfl⟩
                  have HBQ := Lib.hid hb
                  have HOQ := Lib.hid ho
                  clear hb ho HSE HBE
                  by_cases hn0 : 0 < n
                  · have cc : wq.cell? ⟨g7, n - 1, none⟩ = some (.int .u32 (F (n - 1))) := by
                      have := HOQ.out.cell (i := n - 1) (by omega)
                      have e : ¬ n < n - 1 := by omega
                      simpa [shF, e] using this
                    have cn := HOQ.out.cell (i := n) (by omega)
                    have fn := HOQ.out.frozen n
                    have z1 : IntKind.i64.wrap ((n : Int) - 1) = (n : Int) - 1 := IntWalk.i64_in _ (by omega)
                    have y1 : 0 ≤ (n : Int) - 1 ∧ (n : Int) - 1 < 8 := ⟨by omega, by omega⟩
                    have tt1 : ((n : Int) - 1).toNat = n - 1 := by omega
                    have q1 : (1 : Int) ≤ (n : Int) := by omega
                    have n8 : (n : Int) < 8 := by omega
                    go_wp2_with fail
                    go_roundw
                    case rel =>
                      refine ⟨n - 1, by go_num, by omega, HBQ.out.setCell hg7 _, (HOQ.out.set n _).congr fun j hj => ?_⟩
                      simp only [setU, shF]
                      by_cases e : j = n
                      · subst e
                        have : j - 1 < j := by omega
                        simp [this]
                      · by_cases e2 : n < j
                        · have : n - 1 < j := by omega
                          simp [e, e2, this]
                        · have : ¬ n - 1 < j := by omega
                          simp [e, e2, this]
                    case measure => simp [intOf]; omega
                  · have e0 : n = 0 := by omega
                    subst e0
                    have c4 : wq.cell? ⟨g7, 4, none⟩ = some (.int .u32 (F 3)) := HOQ.out.cell (i := 4) (by omega)
                    have c0 := HOQ.out.cell (i := 0) (by omega)
                    have f4 := HOQ.out.frozen 4
                    have f0 := HOQ.out.frozen 0
                    go_wp2_with fail
                    go_roundw
                    case rel =>
                      refine ⟨i + 1, by go_num, by omega, (HBQ.out.setCell hg7 _).setCell hg7 _, ?_⟩
                      rw [HNX.out]
                      refine ((HOQ.out.set 4 _).set 0 _).congr fun j hj => ?_
                      have hj8 : j = 0 ∨ j = 1 ∨ j = 2 ∨ j = 3 ∨ j = 4 ∨ j = 5 ∨ j = 6 ∨ j = 7 := by omega
                      rcases hj8 with rfl | rfl | rfl | rfl | rfl | rfl | rfl | rfl
                      · simp only [setU, rnd, if_true]
                        rw [← HT1.out, ← HA1.out, ← HM1.out]
                        unfold add32
                        omega
                      · simp [setU, shF, rnd]
                      · simp [setU, shF, rnd]
                      · simp [setU, shF, rnd]
                      · simp only [setU, rnd]
                        rw [← HT1.out]
                        simp [add32]
                      · simp [setU, shF, rnd]
                      · simp [setU, shF, rnd]
                      · simp [setU, shF, rnd]
                    case measure => simp [intOf]; omega
    · have e64 : i = 64 := by omega
      subst e64
      have HHo := Lib.hid (HH2.out.below HBo.out)
      have HSo : Hid (InU wo g7 8 F) := ⟨fun j hj => HO.out.cell hj, HO.out.lt⟩
      have HBF := Lib.hid (HB2.out.trans (HBo.out.mono HB2.out.size))
      have HRE : Hid (∀ j, add32 (H j) (F j) = blkF H B j) := by
        intro j
        rw [HFE.out, HWE.out]
        rfl
      obtain ⟨wM, hwM⟩ : ∃ wM, wM = wo := ⟨_, rfl⟩
      have HWM := Lib.hid hwM
      have hMo : Below wM.heap.size wM (wo.alloc (.cells #[] 29)) := by rw [hwM]; exact (Below.refl _ _).alloc (Nat.le_refl _) _
      have HST4 : Hid (RowU wM (.slice (some ⟨wo.heap.size, 0, none⟩) 0 0) 0 (blkF H B) (wo.alloc (.cells #[] 29))) := ⟨World.ownsRow_lit wo #[] 0 (by rw [hwM]; exact Nat.le_refl _) (by simp [maxLen]) rfl, hMo, _, _, rfl⟩
      rw [← hwM] at HHo HSo HBF
      clear hwM hMo hlt HKo HWo HO HBo
      rw [show ((64 : Nat) : Int) = 64 from rfl]
      go_wp2_with fail
      go_loopw [15, 16] (fun l v w' => ∃ i : Nat, v = .int .i64 i ∧ i ≤ 8 ∧ RowU wM l i (blkF H B) w') (fun _ v _ => 8 - (intOf v).toNat)
      case atStart => exact ⟨0, rfl, by omega, HST4.out⟩
      case round =>
        obtain ⟨i, rfl, hi8, hr⟩ := hrel
        obtain ⟨wp, rfl⟩ : ∃ wp, wp = wr := ⟨_, rfl⟩
        clear HST4
        have HR := Lib.hid hr
        have hbase := hr.b.size
        obtain ⟨go, co, rfl⟩ := hr.sl
        have HP := Lib.hid hr.b
        clear hr
        by_cases hlt : i < 8
        · have HC_g : Hid (∀ wx, Below wp.heap.size wp wx → ∀ j, j < 8 → wx.cell? ⟨g7, j, none⟩ = some (.int .u32 (F j))) := fun wx h j hj => (HSo.out.below (bT HP.out h hbase)).c j hj
          have HC_ga : Hid (∀ wx, Below wp.heap.size wp wx → ∀ j, j < 8 → wx.cell? ⟨ga, j, none⟩ = some (.int .u32 (H j))) := fun wx h j hj => (HHo.out.below (bT HP.out h hbase)).c j hj
          go_wp2_with fail

          refine wp_region_tail 11 (by decide) (by kernel_rfl) [142, 143, 144, 145, 146, 147, 148, 149, 150, 151, 152]
            (bk22G H F (.slice (some ⟨go, 0, none⟩) i co) wM.heap.size ga ca g7 c7 i) (fun n w' => Below wp.heap.size wp w') (fun w w' => Below w.heap.size w w') (fun w => Below.refl _ _) (fun _ _ _ h k => h.trans (k.mono h.size)) ?stable
            [142, 143, 144, 145, 146, 147, 148, 149, 150, 151, 152, 153, 15] (by kernel_rfl) (by kernel_rfl) (by kernel_rfl) ((Below.refl _ _).drew) ?step ?fin
          case stable => exact fun d v w w' hS hG => bk22_stable _ _ _ _ _ _ _ _ _ hS hG
          case step =>
            refine ⟨?_, ?_, ?_, ?_, ?_, ?_, ?_, ?_, ?_, ?_, ?_, trivial⟩
            all_goals intro n f wx hn hI hS haf
            all_goals have HI := Lib.hid hI
            all_goals clear hI hS
            · simp [frameOf, goFrame]; go_simp; exact ⟨HI.out, Below.refl _ _, rfl⟩
            · simp [frameOf, goFrame]; go_simp; exact ⟨HI.out, Below.refl _ _, rfl⟩
            · simp [frameOf, goFrame]; go_simp; exact ⟨HI.out, Below.refl _ _, rfl⟩
            · have h143 : f 143 = .slice (some ⟨ga, 0, none⟩) 8 ca := (by first | exact haf.1 | exact haf.2.1 | exact haf.2.2.1 | exact haf.2.2.2.1 | exact haf.2.2.2.2.1); have h144 : f 144 = .int .i64 (i : Int) := (by first | exact haf.1 | exact haf.2.1 | exact haf.2.2.1 | exact haf.2.2.2.1 | exact haf.2.2.2.2.1); have yy : 0 ≤ (i : Int) ∧ (i : Int) < 8 := ⟨by omega, by omega⟩; have tt : ((i : Int)).toNat = i := (by omega); simp [frameOf, goFrame, h143, h144]; go_simp; exact ⟨HI.out, Below.refl _ _, rfl⟩
            · have h145 : f 145 = .pointer (some ⟨ga, i, none⟩) := (by first | exact haf.1 | exact haf.2.1 | exact haf.2.2.1 | exact haf.2.2.2.1 | exact haf.2.2.2.2.1); have cc := HC_ga.out wx HI.out i (by omega); simp [frameOf, goFrame, h145]; go_simp; exact ⟨HI.out, Below.refl _ _, rfl⟩
            · simp [frameOf, goFrame]; go_simp; exact ⟨HI.out, Below.refl _ _, rfl⟩
            · simp [frameOf, goFrame]; go_simp; exact ⟨HI.out, Below.refl _ _, rfl⟩
            · have h147 : f 147 = .slice (some ⟨g7, 0, none⟩) 8 c7 := (by first | exact haf.1 | exact haf.2.1 | exact haf.2.2.1 | exact haf.2.2.2.1 | exact haf.2.2.2.2.1); have h148 : f 148 = .int .i64 (i : Int) := (by first | exact haf.1 | exact haf.2.1 | exact haf.2.2.1 | exact haf.2.2.2.1 | exact haf.2.2.2.2.1); have yy : 0 ≤ (i : Int) ∧ (i : Int) < 8 := ⟨by omega, by omega⟩; have tt : ((i : Int)).toNat = i := (by omega); simp [frameOf, goFrame, h147, h148]; go_simp; exact ⟨HI.out, Below.refl _ _, rfl⟩
            · have h149 : f 149 = .pointer (some ⟨g7, i, none⟩) := (by first | exact haf.1 | exact haf.2.1 | exact haf.2.2.1 | exact haf.2.2.2.1 | exact haf.2.2.2.2.1); have cc := HC_g.out wx HI.out i (by omega); simp [frameOf, goFrame, h149]; go_simp; exact ⟨HI.out, Below.refl _ _, rfl⟩
            · have h146 : f 146 = .int .u32 (H i) := (by first | exact haf.1 | exact haf.2.1 | exact haf.2.2.1 | exact haf.2.2.2.1 | exact haf.2.2.2.2.1); have h150 : f 150 = .int .u32 (F i) := (by first | exact haf.1 | exact haf.2.1 | exact haf.2.2.1 | exact haf.2.2.2.1 | exact haf.2.2.2.2.1); simp [frameOf, goFrame, h146, h150]; go_simp; exact ⟨HI.out, Below.refl _ _, rfl⟩
            · have h151 : f 151 = .int .u32 (add32 (H i) (F i)) := (by first | exact haf.1 | exact haf.2.1 | exact haf.2.2.1 | exact haf.2.2.2.1 | exact haf.2.2.2.2.1); simp [frameOf, goFrame, h151]; go_simp; exact ⟨HI.out.alloc HI.out.size _, (Below.refl _ _).alloc (Nat.le_refl _) _, wx.heap.size, rfl, Nat.le_trans hbase HI.out.size, blk_alloc_new _ _⟩
          case fin =>
            intro n f wx hn hI hS hG
            have h142 : f 142 = (.slice (some ⟨go, 0, none⟩) i co) := hG 0 _ 142 (by decide) rfl rfl
            have h152 : ∃ h, f 152 = .slice (some ⟨h, 0, none⟩) 1 1 ∧ wM.heap.size ≤ h ∧ wx.heap[h]? = some (.cells #[.int .u32 (add32 (H i) (F i))] 29 (0, 0)) := hG 10 _ 152 (by decide) rfl rfl
            obtain ⟨h, h152, hh, hcell⟩ := h152
            have hs1 := hI.size
            have HR1 := Lib.hid (HR.out.below hI)
            have hz := HR1.out.b.size
            clear hG hS hn
            change Oper.wp Tryd.prog _ _ _ (fun a' w' => TailOk Tryd.prog _ _ a' w') _
            refine wp_append_lies wx (.tmp 142) (.tmp 152) 47 rfl wM.heap.size 29 i0 (.int .u32 0) 1 4 Tryd.underlying47 hi0 hz0 hz1 hz2 rfl (by decide) (.slice (some ⟨go, 0, none⟩) i co) i (uCells (blkF H B) i) ?hs HR1.out.own ⟨h, 0, none⟩ 1 1 [.int .u32 (add32 (H i) (F i))] ?hx rfl (news_of wx h _ _ hcell) (by simp [Value.oneCell']) (by decide) (by unfold maxLen; omega) (by omega) hz wx.heap.size rfl ?_
            case hs => simp [frameOf, goFrame, Act.eval, h142]
            case hx => simp [frameOf, goFrame, Act.eval, h152]
            intro g' c' w4 hown hgrow hat hlt4
            have HW4 := Lib.hid (HR1.out.push (HRE.out i).symm hown hgrow)
            clear hown hgrow hat
            simp [frameOf, goFrame, TailOk]
            go_simp
            try simp only [TailOk, List.drop]
            go_wp2_with fail
            go_roundw
            case rel => exact ⟨i + 1, by go_num, by omega, HW4.out⟩
            case measure => simp [intOf]; omega
        · have e8 : i = 8 := by omega
          subst e8
          have ho := ownU_of_owns HR.out.own
          have HO8 := Lib.hid ho
          have HB8 := Lib.hid (HBF.out.trans (HP.out.mono HBF.out.size))
          have hle : w.heap.size ≤ wM.heap.size := HBF.out.size
          clear ho
          go_wp2_with fail
          go_ret
          exact ⟨go, co, rfl, Nat.le_trans hle HO8.out.2.1, HO8.out.1, HO8.out.2.2, HB8.out⟩

end My
end Go.Proofs.YtabpkabeabemmaaDoor
