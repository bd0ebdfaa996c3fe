/- SHA-256: the program's block. -/
import Derived.Test.YtabpkabeabemmaaDoorHashK
import Derived.Lib.Strings
import Derived.Laws.IdiomStrings
namespace Go.Proofs.YtabpkabeabemmaaDoor
open Go.RowKit Go.Deep
set_option linter.unusedVariables false
namespace My

def bi15G (W : Nat → Int) (gw i : Nat) (a b : Int) (d : Nat) (v : Value) (w : World) : Prop :=
  match d with
  | 58 | 59 | 72 => v = .int .i64 (i : Int)
  | 60 => v = .int .i64 ((i : Int) - 16)
  | 61 => v = .pointer (some ⟨gw, i - 16, none⟩)
  | 62 => v = .int .u32 (W (i - 16))
  | 63 | 65 | 68 => v = .int .u32 a
  | 64 => v = .int .u32 (rotN 7 a)
  | 66 => v = .int .u32 (rotN 18 a)
  | 67 => v = .int .u32 (bits .xor .u32 (rotN 7 a) (rotN 18 a))
  | 69 => v = .int .u32 (a / 8)
  | 70 => v = .int .u32 (bits .xor .u32 (bits .xor .u32 (rotN 7 a) (rotN 18 a)) (a / 8))
  | 71 => v = .int .u32 (add32 (W (i - 16)) (bits .xor .u32 (bits .xor .u32 (rotN 7 a) (rotN 18 a)) (a / 8)))
  | 73 => v = .int .i64 ((i : Int) - 7)
  | 74 => v = .pointer (some ⟨gw, i - 7, none⟩)
  | 75 => v = .int .u32 (W (i - 7))
  | 76 => v = .int .u32 (add32 (add32 (W (i - 16)) (bits .xor .u32 (bits .xor .u32 (rotN 7 a) (rotN 18 a)) (a / 8))) (W (i - 7)))
  | 77 | 79 | 82 => v = .int .u32 b
  | 78 => v = .int .u32 (rotN 17 b)
  | 80 => v = .int .u32 (rotN 19 b)
  | 81 => v = .int .u32 (bits .xor .u32 (rotN 17 b) (rotN 19 b))
  | 83 => v = .int .u32 (b / 1024)
  | 84 => v = .int .u32 (bits .xor .u32 (bits .xor .u32 (rotN 17 b) (rotN 19 b)) (b / 1024))
  | 85 => v = .int .u32 (add32 (add32 (add32 (W (i - 16)) (bits .xor .u32 (bits .xor .u32 (rotN 7 a) (rotN 18 a)) (a / 8))) (W (i - 7))) (bits .xor .u32 (bits .xor .u32 (rotN 17 b) (rotN 19 b)) (b / 1024)))
  | 86 => v = .pointer (some ⟨gw, i, none⟩)
  | _ => True
theorem bi15_stable (W : Nat → Int) (gw i : Nat) (a b : Int) {d : Nat} {v : Value} {w w' : World} (hb : Below w.heap.size w w') (h : bi15G W gw i a b d v w) : bi15G W gw i a b d v w' := by
  unfold bi15G at h ⊢
  split at h
  all_goals exact h
def bi21G (V W : Nat → Int) (gv gw i : Nat) (a : Int) (d : Nat) (v : Value) (w : World) : Prop :=
  match d with
  | 95 => v = .pointer (some ⟨gv, 7, none⟩)
  | 96 => v = .int .u32 (V 7)
  | 97 | 99 | 102 | 106 | 110 => v = .int .u32 a
  | 98 => v = .int .u32 (rotN 6 a)
  | 100 => v = .int .u32 (rotN 11 a)
  | 101 => v = .int .u32 (bits .xor .u32 (rotN 6 a) (rotN 11 a))
  | 103 => v = .int .u32 (rotN 25 a)
  | 104 => v = .int .u32 (bits .xor .u32 (bits .xor .u32 (rotN 6 a) (rotN 11 a)) (rotN 25 a))
  | 105 => v = .int .u32 (add32 (V 7) (bits .xor .u32 (bits .xor .u32 (rotN 6 a) (rotN 11 a)) (rotN 25 a)))
  | 107 => v = .pointer (some ⟨gv, 5, none⟩)
  | 108 => v = .int .u32 (V 5)
  | 109 => v = .int .u32 (bits .and .u32 a (V 5))
  | 111 => v = .int .u32 (not32 a)
  | 112 => v = .pointer (some ⟨gv, 6, none⟩)
  | 113 => v = .int .u32 (V 6)
  | 114 => v = .int .u32 (bits .and .u32 (not32 a) (V 6))
  | 115 => v = .int .u32 (bits .xor .u32 (bits .and .u32 a (V 5)) (bits .and .u32 (not32 a) (V 6)))
  | 116 => v = .int .u32 (add32 (add32 (V 7) (bits .xor .u32 (bits .xor .u32 (rotN 6 a) (rotN 11 a)) (rotN 25 a))) (bits .xor .u32 (bits .and .u32 a (V 5)) (bits .and .u32 (not32 a) (V 6))))
  | 117 | 121 => v = .int .i64 (i : Int)
  | 118 => v = .pointer (some ⟨1, i, none⟩)
  | 119 => v = .int .u32 (kF i)
  | 120 => v = .int .u32 (add32 (add32 (add32 (V 7) (bits .xor .u32 (bits .xor .u32 (rotN 6 a) (rotN 11 a)) (rotN 25 a))) (bits .xor .u32 (bits .and .u32 a (V 5)) (bits .and .u32 (not32 a) (V 6)))) (kF i))
  | 122 => v = .pointer (some ⟨gw, i, none⟩)
  | 123 => v = .int .u32 (W i)
  | 124 => v = .int .u32 (add32 (add32 (add32 (add32 (V 7) (bits .xor .u32 (bits .xor .u32 (rotN 6 a) (rotN 11 a)) (rotN 25 a))) (bits .xor .u32 (bits .and .u32 a (V 5)) (bits .and .u32 (not32 a) (V 6)))) (kF i)) (W i))
  | _ => True
theorem bi21_stable (V W : Nat → Int) (gv gw i : Nat) (a : Int) {d : Nat} {v : Value} {w w' : World} (hb : Below w.heap.size w w') (h : bi21G V W gv gw i a d v w) : bi21G V W gv gw i a d v w' := by
  unfold bi21G at h ⊢
  split at h
  all_goals exact h
def bi22G (V : Nat → Int) (gv : Nat) (a : Int) (d : Nat) (v : Value) (w : World) : Prop :=
  match d with
  | 125 | 127 | 130 | 133 | 137 => v = .int .u32 a
  | 126 => v = .int .u32 (rotN 2 a)
  | 128 => v = .int .u32 (rotN 13 a)
  | 129 => v = .int .u32 (bits .xor .u32 (rotN 2 a) (rotN 13 a))
  | 131 => v = .int .u32 (rotN 22 a)
  | 132 => v = .int .u32 (bits .xor .u32 (bits .xor .u32 (rotN 2 a) (rotN 13 a)) (rotN 22 a))
  | 134 | 142 => v = .pointer (some ⟨gv, 1, none⟩)
  | 135 | 143 => v = .int .u32 (V 1)
  | 136 => v = .int .u32 (bits .and .u32 a (V 1))
  | 138 | 144 => v = .pointer (some ⟨gv, 2, none⟩)
  | 139 | 145 => v = .int .u32 (V 2)
  | 140 => v = .int .u32 (bits .and .u32 a (V 2))
  | 141 => v = .int .u32 (bits .xor .u32 (bits .and .u32 a (V 1)) (bits .and .u32 a (V 2)))
  | 146 => v = .int .u32 (bits .and .u32 (V 1) (V 2))
  | 147 => v = .int .u32 (bits .xor .u32 (bits .xor .u32 (bits .and .u32 a (V 1)) (bits .and .u32 a (V 2))) (bits .and .u32 (V 1) (V 2)))
  | 148 => v = .int .u32 (add32 (bits .xor .u32 (bits .xor .u32 (rotN 2 a) (rotN 13 a)) (rotN 22 a)) (bits .xor .u32 (bits .xor .u32 (bits .and .u32 a (V 1)) (bits .and .u32 a (V 2))) (bits .and .u32 (V 1) (V 2))))
  | _ => True
theorem bi22_stable (V : Nat → Int) (gv : Nat) (a : Int) {d : Nat} {v : Value} {w w' : World} (hb : Below w.heap.size w w') (h : bi22G V gv a d v w) : bi22G V gv a d v w' := by
  unfold bi22G at h ⊢
  split at h
  all_goals exact h
def bi28G (M V : Nat → Int) (gh gv i : Nat) (d : Nat) (v : Value) (w : World) : Prop :=
  match d with
  | 171 | 174 => v = .int .i64 (i : Int)
  | 172 | 178 => v = .pointer (some ⟨gh, i, none⟩)
  | 173 => v = .int .u32 (M i)
  | 175 => v = .pointer (some ⟨gv, i, none⟩)
  | 176 => v = .int .u32 (V i)
  | 177 => v = .int .u32 (add32 (M i) (V i))
  | _ => True
theorem bi28_stable (M V : Nat → Int) (gh gv i : Nat) {d : Nat} {v : Value} {w w' : World} (hb : Below w.heap.size w w') (h : bi28G M V gh gv i d v w) : bi28G M V gh gv i d v w' := by
  unfold bi28G at h ⊢
  split at h
  all_goals exact h
def mixH (H V : Nat → Int) (i j : Nat) : Int := if j < i then add32 (H j) (V j) else H j
def blkI (H B : Nat → Int) (j : Nat) : Int := add32 (H j) (rnds H kF (sched B 48) 64 j)
def aggU (H : Nat → Int) : Value := .agg #[.int .u32 (H 0), .int .u32 (H 1), .int .u32 (H 2), .int .u32 (H 3), .int .u32 (H 4), .int .u32 (H 5), .int .u32 (H 6), .int .u32 (H 7)]

theorem three_blocksU (w : World) (x y z : Obj) : (((w.alloc x).alloc y).alloc z).heap[w.heap.size]? = some x ∧ (((w.alloc x).alloc y).alloc z).heap[w.heap.size + 1]? = some y ∧ (((w.alloc x).alloc y).alloc z).heap[w.heap.size + 1 + 1]? = some z ∧ (((w.alloc x).alloc y).alloc z).heap.size = w.heap.size + 3 := by
  refine ⟨?_, ?_, ?_, ?_⟩
  · rw [blk_alloc_lt _ _ _ (by simp; omega), blk_alloc_lt _ _ _ (by simp), blk_alloc_new]
  · have h1 : (w.alloc x).heap.size = w.heap.size + 1 := by simp
    rw [blk_alloc_lt _ _ _ (by simp), ← h1, blk_alloc_new]
  · have h1 : ((w.alloc x).alloc y).heap.size = w.heap.size + 1 + 1 := by simp
    rw [← h1, blk_alloc_new]
  · simp
theorem own_zeros {w : World} {g n : Nat} {t : TypeId} (h : w.heap[g]? = some (.cells (Array.replicate n (.int .u32 0)) t (0, 0))) : OwnU w g n (fun _ => 0) :=
  ⟨t, _, h, fun i hi => by simp [hi]⟩
/-- A word as the program puts it together: n bytes of it. -/
def asmW (B : Nat → Int) (k : Nat) : Nat → Int
  | 0 => 0
  | n + 1 => bits .or .u32 (asmW B k n * 256 % 4294967296) (B (4 * k + n))
def asmS (B : Nat → Int) (k n j : Nat) : Int := if j < k then asmW B j 4 else if j = k then asmW B k n else 0
theorem asmS_next (B : Nat → Int) (k j : Nat) : asmS B k 4 j = asmS B (k + 1) 0 j := by
  unfold asmS
  by_cases h : j < k
  · rw [if_pos h, if_pos (by omega)]
  · by_cases h2 : j = k
    · subst h2
      rw [if_neg h, if_pos rfl, if_pos (by omega)]
    · rw [if_neg h, if_neg h2, if_neg (by omega)]
      split <;> rfl
theorem slice_atU (s : ByteArray) (lo hi : Nat) (h1 : lo ≤ hi) (h2 : hi ≤ s.size) (a b : Int) (ha : a = lo) (hb : b = hi) (wx : World) :
    (Instr.slice 9 (.string s) (some (.int .i64 a)) (some (.int .i64 b)) none).run Tryd.prog wx = .ok (.string (s.extract lo hi)) wx := by
  subst ha hb
  have := run_slice_string (P := Tryd.prog) wx 9 s .i64 .i64 (lo : Int) (hi : Int) Tryd.underlying9 (by omega) (by omega) (by omega)
  simpa using this
def byteF (s : ByteArray) (j : Nat) : Int := ((s.data.toList.getD j 0).toNat : Int)

theorem asmW_bd (B : Nat → Int) (k n : Nat) : W32 (asmW B k n) := by
  cases n with
  | zero => unfold W32 asmW; omega
  | succ n => exact ⟨bits_lo_u32 _ _ _, bits_hi_u32 _ _ _⟩
theorem asmS_bd (s : ByteArray) (k n j : Nat) : W32 (asmS (byteF s) k n j) := by
  unfold asmS
  split
  · exact asmW_bd _ _ _
  · split
    · exact asmW_bd _ _ _
    · unfold W32; omega
theorem byteF_hi (s : ByteArray) (j : Nat) : byteF s j ≤ 255 := by
  unfold byteF
  generalize s.data.toList.getD j 0 = c
  have : c.toNat < 256 := UInt8.toNat_lt c
  omega

set_option maxRecDepth 100000 in
set_option maxHeartbeats 8000000 in
theorem block_any (H : Nat → Int) (s : ByteArray) (w : World) (hHb : ∀ i, W32 (H i)) (hs : 64 ≤ s.size) (hK : InU w 1 64 kF) :
    Calls Tryd.prog 11 #[aggU H, .string s] w fun e w' => e = .returned (aggU (blkI H (asmS (byteF s) 16 0))) ∧ Below w.heap.size w w' := by
  obtain ⟨i0, hi0, hz0, hz1, hz2⟩ := info_parts infoU32
  have HHB := Lib.hid hHb
  have HKK := Lib.hid hK
  clear hHb hK
  unfold aggU
  go_enter Tryd.func11, Tryd.ntmps11
  go_wp2_with fail
  obtain ⟨kA, kB, kC, kS⟩ := three_blocksU w (.cells #[.int .u32 (H 0), .int .u32 (H 1), .int .u32 (H 2), .int .u32 (H 3), .int .u32 (H 4), .int .u32 (H 5), .int .u32 (H 6), .int .u32 (H 7)] 30) (.cells (Array.replicate 8 (.int .u32 0)) 30) (.cells (Array.replicate 64 (.int .u32 0)) 56)
  have hb0 : Below w.heap.size w (((w.alloc (.cells #[.int .u32 (H 0), .int .u32 (H 1), .int .u32 (H 2), .int .u32 (H 3), .int .u32 (H 4), .int .u32 (H 5), .int .u32 (H 6), .int .u32 (H 7)] 30)).alloc (.cells (Array.replicate 8 (.int .u32 0)) 30)).alloc (.cells (Array.replicate 64 (.int .u32 0)) 56)) :=
    ((((Below.refl w.heap.size w).alloc (Nat.le_refl _) _).alloc (by simp) _)).alloc (by simp; omega) _
  obtain ⟨w0, hw0⟩ : ∃ w0, w0 = (((w.alloc (.cells #[.int .u32 (H 0), .int .u32 (H 1), .int .u32 (H 2), .int .u32 (H 3), .int .u32 (H 4), .int .u32 (H 5), .int .u32 (H 6), .int .u32 (H 7)] 30)).alloc (.cells (Array.replicate 8 (.int .u32 0)) 30)).alloc (.cells (Array.replicate 64 (.int .u32 0)) 56)) := ⟨_, rfl⟩
  rw [← hw0] at kA kB kC kS hb0
  change Code.wp _ _ _ _ (((w.alloc (.cells #[.int .u32 (H 0), .int .u32 (H 1), .int .u32 (H 2), .int .u32 (H 3), .int .u32 (H 4), .int .u32 (H 5), .int .u32 (H 6), .int .u32 (H 7)] 30)).alloc (.cells (Array.replicate 8 (.int .u32 0)) 30)).alloc (.cells (Array.replicate 64 (.int .u32 0)) 56))
  rw [← hw0]
  have HH : Hid (OwnU w0 w.heap.size 8 H) := ⟨_, _, kA, fun i hi => by
    have : i = 0 ∨ i = 1 ∨ i = 2 ∨ i = 3 ∨ i = 4 ∨ i = 5 ∨ i = 6 ∨ i = 7 := by omega
    rcases this with rfl | rfl | rfl | rfl | rfl | rfl | rfl | rfl <;> rfl⟩
  have HR := Lib.hid (own_zeros kB)
  have HZ := Lib.hid (own_zeros kC)
  have HB0 := Lib.hid hb0
  obtain ⟨gh, hgh⟩ : ∃ gh, gh = w.heap.size := ⟨_, rfl⟩
  obtain ⟨gr, hgr⟩ : ∃ gr, gr = w.heap.size + 1 := ⟨_, rfl⟩
  obtain ⟨gw, hgw⟩ : ∃ gw, gw = w.heap.size + 1 + 1 := ⟨_, rfl⟩
  have hne1 : gh ≠ gw := by omega
  have hne2 : gr ≠ gw := by omega
  have hne3 : gh ≠ gr := by omega
  have hgw0 : gh ≤ gw := by omega
  rw [← hgw] at HZ ⊢
  rw [← hgr] at HR ⊢
  rw [← hgh] at HH ⊢
  have HGH := Lib.hid hgh
  have HGR := Lib.hid hgr
  have HGW := Lib.hid hgw
  clear hw0 kA kB kC kS hb0 hgh hgr hgw
  have HST : Hid (OwnU w0 gw 64 (asmS (byteF s) 0 0)) := HZ.out.congr fun j _ => by unfold asmS; simp; intro _; rfl
  have HKB := Lib.hid (fun (w' : World) (h : ∀ k, k < w0.heap.size → k ≠ gw → w'.heap[k]? = w0.heap[k]?) => h)
  clear HKB
  go_loopw [19] (fun v w' => ∃ k : Nat, v = .int .i64 k ∧ k ≤ 16 ∧ OwnU w' gw 64 (asmS (byteF s) k 0) ∧ OwnU w' gh 8 H ∧ OwnU w' gr 8 (fun _ => 0) ∧ Below w.heap.size w w') (fun v _ => 16 - (intOf v).toNat)
  case atStart => exact ⟨0, rfl, by omega, HST.out, HH.out, HR.out, HB0.out⟩
  case round =>
    obtain ⟨k, rfl, hk, ho, hh, hr, hb⟩ := hrel
    obtain ⟨wo, rfl⟩ : ∃ wo, wo = wr := ⟨_, rfl⟩
    clear HST HH HR HB0 HZ
    have HO := Lib.hid ho
    have HH := Lib.hid hh
    have HR := Lib.hid hr
    have HB := Lib.hid hb
    clear ho hh hr hb
    by_cases hlt : k < 16
    · have hsl := fun wx => slice_atU s (4 * k) (4 * k + 4) (by omega) (by omega) (4 * (k : Int)) (4 * (k : Int) + 4) (by omega) (by omega) wx
      have z1 : IntKind.i64.wrap (4 * (k : Int)) = 4 * (k : Int) := IntWalk.i64_in _ (by omega)
      have z2 : IntKind.i64.wrap (4 * (k : Int) + 4) = 4 * (k : Int) + 4 := IntWalk.i64_in _ (by omega)
      have hX4 : (s.extract (4 * k) (4 * k + 4)).size = 4 := by simp; omega
      have hXb : ∀ n, n < 4 → (s.extract (4 * k) (4 * k + 4)).data.toList[n]? = some (s.data.toList.getD (4 * k + n) 0) := by
        intro n hn
        rw [Lib.extract_data, List.getElem?_take_of_lt (by omega), List.getElem?_drop, List.getD_eq_getElem?_getD, List.getElem?_eq_getElem (by simp; omega)]
        rfl
      obtain ⟨X, hX⟩ : ∃ X, X = s.extract (4 * k) (4 * k + 4) := ⟨_, rfl⟩
      rw [← hX] at hX4 hXb hsl
      have hcv := fun wx => run_bytes_of_string (P := Tryd.prog) wx 9 24 5 X Tryd.underlying9 Tryd.underlying24 Tryd.underlying5
      rw [hX4] at hcv
      have HXB := Lib.hid hXb
      clear hX hXb
      go_wp2_with fail
      obtain ⟨wx, hwx⟩ : ∃ wx, wx = (wo.alloc (.cells (bytesRow X (grownCap wo 4 0 5)) 5 ((bytesRow X (grownCap wo 4 0 5)).size, (bytesRow X (grownCap wo 4 0 5)).size + 1))).drew := ⟨_, rfl⟩
      obtain ⟨gx, hgx⟩ : ∃ gx, gx = wo.heap.size := ⟨_, rfl⟩
      have hbx : Below wo.heap.size wo wx := by rw [hwx]; exact ((Below.refl _ _).alloc (Nat.le_refl _) _).drew
      have hcx : ∀ n, n < 4 → wx.cell? ⟨gx, n, none⟩ = some (.int .u8 (byteF s (4 * k + n))) := by
        intro n hn
        have h1 := HXB.out n hn
        have hlt4 : n < X.data.size := by
          have := (List.getElem?_eq_some_iff.1 h1).1
          simpa using this
        have h2 := bytesRow_at X (grownCap wo 4 0 5) n hlt4
        have h3 : wx.heap[gx]? = some (.cells (bytesRow X (grownCap wo 4 0 5)) 5 ((bytesRow X (grownCap wo 4 0 5)).size, (bytesRow X (grownCap wo 4 0 5)).size + 1)) := by
          rw [hwx, hgx]
          exact blk_alloc_new wo _
        simp only [World.cell?, h3]
        rw [h2]
        unfold byteF
        have h4 : X.data[n] = s.data.toList.getD (4 * k + n) 0 := by
          have := h1
          rw [List.getElem?_eq_getElem (by simpa using hlt4)] at this
          simpa using this
        rw [h4]
        rfl
      have hgxl : gx < wx.heap.size := by rw [hwx, hgx]; simp
      have hgxw : gx ≠ gw := by have := HO.out.lt; omega
      rw [← hwx, ← hgx]
      have HCX := Lib.hid hcx
      have HOX := Lib.hid (HO.out.below hbx (Nat.le_refl _))
      have HHX := Lib.hid (HH.out.below hbx (Nat.le_refl _))
      have HRX := Lib.hid (HR.out.below hbx (Nat.le_refl _))
      have HBX := Lib.hid (HB.out.trans (hbx.mono HB.out.size))
      have HGX := Lib.hid hgx
      clear hwx hgx hbx hcx HO HH HR HB hcv hsl
      go_loopw [31] (fun v w' => ∃ n : Nat, v = .int .i64 n ∧ n ≤ 4 ∧ OwnU w' gw 64 (asmS (byteF s) k n) ∧ OwnU w' gh 8 H ∧ OwnU w' gr 8 (fun _ => 0) ∧ Below w.heap.size w w' ∧ ∀ m, m < 4 → w'.cell? ⟨gx, m, none⟩ = some (.int .u8 (byteF s (4 * k + m)))) (fun v _ => 4 - (intOf v).toNat)
      case atStart => exact ⟨0, rfl, by omega, HOX.out, HHX.out, HRX.out, HBX.out, HCX.out⟩
      case round =>
        obtain ⟨n, rfl, hn, ho, hh, hr, hb, hc⟩ := hrel
        obtain ⟨wq, rfl⟩ : ∃ wq, wq = wr := ⟨_, rfl⟩
        clear HOX HHX HRX HBX HCX
        have HO := Lib.hid ho
        have HH := Lib.hid hh
        have HR := Lib.hid hr
        have HB := Lib.hid hb
        have HC := Lib.hid hc
        clear ho hh hr hb hc
        by_cases hn4 : n < 4
        · have cx := HC.out n hn4
          have cw := HO.out.cell (i := k) (by omega)
          have fw := HO.out.frozen k
          have ew : asmS (byteF s) k n k = asmW (byteF s) k n := by simp [asmS]
          rw [ew] at cw
          have bl : 0 ≤ byteF s (4 * k + n) := by unfold byteF; omega
          have bh : byteF s (4 * k + n) ≤ 255 := byteF_hi _ _
          have z3 : IntKind.u32.wrap (byteF s (4 * k + n)) = byteF s (4 * k + n) := IntWalk.u32_in _ (by omega)
          have k64 : (k : Int) < 64 := by omega
          go_wp2_with fail
          go_roundw
          case rel =>
            refine ⟨n + 1, by go_num, by omega, (HO.out.set k _).congr fun j hj => ?_, HH.out.of_block ?_, HR.out.of_block ?_, HB.out.setCell (show w.heap.size ≤ gw by have := HGW.out; omega) _, ?_⟩
            · simp only [setU, asmS]
              by_cases e : j = k
              · subst e
                simp [asmW]
              · simp [e]
            · simp [World.setCell, Array.getElem?_modify, Ne.symm hne1]
            · simp [World.setCell, Array.getElem?_modify, Ne.symm hne2]
            · intro m hm
              have := HC.out m hm
              simpa [World.cell?, World.setCell, Array.getElem?_modify, Ne.symm hgxw] using this
          case measure => simp [intOf]; omega
        · have e4 : n = 4 := by omega
          subst e4
          go_wp2_with fail
          go_roundw
          case rel => exact ⟨k + 1, by go_num, by omega, HO.out.congr fun j _ => asmS_next _ _ _, HH.out, HR.out, HB.out⟩
          case measure => simp [intOf]; omega
    · have e16 : k = 16 := by omega
      subst e16
      rw [show ((16 : Nat) : Int) = 16 from rfl]
      have HST2 : Hid (OwnU wo gw 64 (sched (asmS (byteF s) 16 0) (16 - 16))) := HO.out
      have HFW : Hid (∀ j, W32 (asmS (byteF s) 16 0 j)) := fun j => asmS_bd s 16 0 j
      clear HO hlt
      go_wp2_with fail
      go_loopw [9] (fun v w' => ∃ i : Nat, v = .int .i64 i ∧ 16 ≤ i ∧ i ≤ 64 ∧ OwnU w' gw 64 (sched (asmS (byteF s) 16 0) (i - 16)) ∧ OwnU w' gh 8 H ∧ OwnU w' gr 8 (fun _ => 0) ∧ Below w.heap.size w w') (fun v _ => 64 - (intOf v).toNat)
      case atStart => exact ⟨16, rfl, by omega, by omega, HST2.out, HH.out, HR.out, HB.out⟩
      case round =>
        obtain ⟨i, rfl, hi1, hi2, ho, hh, hr, hb⟩ := hrel
        obtain ⟨wq, rfl⟩ : ∃ wq, wq = wr := ⟨_, rfl⟩
        clear HST2 HH HR HB
        have HWB := sched_lo HFW.out (i - 16)
        have HNX : Hid (i < 64 → sched (asmS (byteF s) 16 0) (i + 1 - 16) = setU (sched (asmS (byteF s) 16 0) (i - 16)) i (nxtW (sched (asmS (byteF s) 16 0) (i - 16)) i)) := by
          intro h
          rw [show i + 1 - 16 = (i - 16) + 1 from by omega]
          simp only [sched]
          rw [show 16 + (i - 16) = i from by omega]
        obtain ⟨W, hW⟩ : ∃ W, W = sched (asmS (byteF s) 16 0) (i - 16) := ⟨_, rfl⟩
        rw [← hW] at ho HWB HNX
        have HWE := Lib.hid hW
        have HF_W := Lib.hid HWB
        have HO := Lib.hid ho
        have HH := Lib.hid hh
        have HR := Lib.hid hr
        have HB := Lib.hid hb
        clear hW HWB ho hh hr hb
        by_cases hlt : i < 64
        · have c15 := HO.out.cell (i := i - 15) (by omega)
          have c2 := HO.out.cell (i := i - 2) (by omega)
          have z15 : IntKind.i64.wrap ((i : Int) - 15) = (i : Int) - 15 := IntWalk.i64_in _ (by omega)
          have z2 : IntKind.i64.wrap ((i : Int) - 2) = (i : Int) - 2 := IntWalk.i64_in _ (by omega)
          have y15 : 0 ≤ (i : Int) - 15 ∧ (i : Int) - 15 < 64 := ⟨by omega, by omega⟩
          have y2 : 0 ≤ (i : Int) - 2 ∧ (i : Int) - 2 < 64 := ⟨by omega, by omega⟩
          have t15 : ((i : Int) - 15).toNat = i - 15 := by omega
          have t2 : ((i : Int) - 2).toNat = i - 2 := by omega
          have q15 : (15 : Int) ≤ (i : Int) := by omega
          have q2 : (2 : Int) ≤ (i : Int) := by omega
          have HB_x := HF_W.out (i - 15)
          have HB_y := HF_W.out (i - 2)
          obtain ⟨x, hx⟩ : ∃ x, x = W (i - 15) := ⟨_, rfl⟩
          obtain ⟨y, hy⟩ : ∃ y, y = W (i - 2) := ⟨_, rfl⟩
          have HX := Lib.hid hx
          have HY := Lib.hid hy
          rw [← hx] at c15 HB_x
          rw [← hy] at c2 HB_y
          clear hx hy
          go_wp2_with fail
          go_quiet (fail)
          go_wp2_with fail
          obtain ⟨wz, hwz⟩ : ∃ wz, wz = wq.drewN nq := ⟨_, rfl⟩
          have hbz : Below wq.heap.size wq wz := by rw [hwz]; exact below_drewN (Below.refl _ _) nq
          have HOz := Lib.hid (HO.out.below hbz (Nat.le_refl _))
          have HHz := Lib.hid (HH.out.below hbz (Nat.le_refl _))
          have HRz := Lib.hid (HR.out.below hbz (Nat.le_refl _))
          have HBz := Lib.hid (HB.out.trans (hbz.mono HB.out.size))
          have HC_gw : Hid (∀ wx, Below wz.heap.size wz wx → ∀ j, j < 64 → wx.cell? ⟨gw, j, none⟩ = some (.int .u32 (W j))) := fun wx h j hj => (HOz.out.below h (Nat.le_refl _)).cell hj
          rw [← hwz]
          clear hwz hbz c15 c2 z15 z2 y15 y2 t15 t2 q15 q2 HO HH HR HB
          refine wp_region_tail 29 (by decide) (by kernel_rfl) [58, 59, 60, 61, 62, 63, 64, 65, 66, 67, 68, 69, 70, 71, 72, 73, 74, 75, 76, 77, 78, 79, 80, 81, 82, 83, 84, 85, 86]
            (bi15G W gw i x y) (fun n w' => Below wz.heap.size wz w') (fun w w' => Below w.heap.size w w') (fun w => Below.refl _ _) (fun _ _ _ h k => h.trans (k.mono h.size)) ?stable
            [58, 59, 60, 61, 62, 63, 64, 65, 66, 67, 68, 69, 70, 71, 72, 73, 74, 75, 76, 77, 78, 79, 80, 81, 82, 83, 84, 85, 86] (by kernel_rfl) (by kernel_rfl) (by kernel_rfl) ((Below.refl _ _).drew) ?step ?fin
          case stable => exact fun d v w w' hS hG => bi15_stable _ _ _ _ _ hS hG
          case step =>
            refine ⟨?_, ?_, ?_, ?_, ?_, ?_, ?_, ?_, ?_, ?_, ?_, ?_, ?_, ?_, ?_, ?_, ?_, ?_, ?_, ?_, ?_, ?_, ?_, ?_, ?_, ?_, ?_, ?_, ?_, trivial⟩
            all_goals intro n f wx hn hI hS haf
            all_goals have HI := Lib.hid hI
            all_goals clear hI hS
            · simp [frameOf, goFrame]; go_simp; exact ⟨HI.out, Below.refl _ _, rfl⟩
            · simp [frameOf, goFrame]; go_simp; exact ⟨HI.out, Below.refl _ _, rfl⟩
            · have h59 : f 59 = .int .i64 (i : Int) := (by first | exact haf.1 | exact haf.2.1 | exact haf.2.2.1 | exact haf.2.2.2.1 | exact haf.2.2.2.2.1); have zz : IntKind.i64.wrap ((i : Int) - 16) = (i : Int) - 16 := IntWalk.i64_in _ (by omega); simp [frameOf, goFrame, h59]; go_simp; exact ⟨HI.out, Below.refl _ _, rfl⟩
            · have h60 : f 60 = .int .i64 ((i : Int) - 16) := (by first | exact haf.1 | exact haf.2.1 | exact haf.2.2.1 | exact haf.2.2.2.1 | exact haf.2.2.2.2.1); have yy : 0 ≤ (i : Int) - 16 ∧ (i : Int) - 16 < 64 := ⟨by omega, by omega⟩; have tt : ((i : Int) - 16).toNat = i - 16 := (by omega); have qq : (16 : Int) ≤ (i : Int) := (by omega); simp [frameOf, goFrame, h60]; go_simp; exact ⟨HI.out, Below.refl _ _, rfl⟩
            · have h61 : f 61 = .pointer (some ⟨gw, i - 16, none⟩) := (by first | exact haf.1 | exact haf.2.1 | exact haf.2.2.1 | exact haf.2.2.2.1 | exact haf.2.2.2.2.1); have cc := HC_gw.out wx HI.out (i - 16) (by omega); simp [frameOf, goFrame, h61]; go_simp; exact ⟨HI.out, Below.refl _ _, rfl⟩
            · simp [frameOf, goFrame]; go_simp; exact ⟨HI.out, Below.refl _ _, rfl⟩
            · have h63 : f 63 = .int .u32 x := (by first | exact haf.1 | exact haf.2.1 | exact haf.2.2.1 | exact haf.2.2.2.1 | exact haf.2.2.2.2.1); simp [frameOf, goFrame, h63]; go_simp; refine (right_any x 7 wx ((HB_x.1)) ((HB_x.2)) (by unfold isTurn; omega)).mono ?_; rintro e wy ⟨rfl, rfl⟩; exact ⟨HI.out, Below.refl _ _, rfl⟩
            · simp [frameOf, goFrame]; go_simp; exact ⟨HI.out, Below.refl _ _, rfl⟩
            · have h65 : f 65 = .int .u32 x := (by first | exact haf.1 | exact haf.2.1 | exact haf.2.2.1 | exact haf.2.2.2.1 | exact haf.2.2.2.2.1); simp [frameOf, goFrame, h65]; go_simp; refine (right_any x 18 wx ((HB_x.1)) ((HB_x.2)) (by unfold isTurn; omega)).mono ?_; rintro e wy ⟨rfl, rfl⟩; exact ⟨HI.out, Below.refl _ _, rfl⟩
            · have h64 : f 64 = .int .u32 (rotN 7 x) := (by first | exact haf.1 | exact haf.2.1 | exact haf.2.2.1 | exact haf.2.2.2.1 | exact haf.2.2.2.2.1); have h66 : f 66 = .int .u32 (rotN 18 x) := (by first | exact haf.1 | exact haf.2.1 | exact haf.2.2.1 | exact haf.2.2.2.1 | exact haf.2.2.2.2.1); simp [frameOf, goFrame, h64, h66]; go_simp; exact ⟨HI.out, Below.refl _ _, rfl⟩
            · simp [frameOf, goFrame]; go_simp; exact ⟨HI.out, Below.refl _ _, rfl⟩
            · have h68 : f 68 = .int .u32 x := (by first | exact haf.1 | exact haf.2.1 | exact haf.2.2.1 | exact haf.2.2.2.1 | exact haf.2.2.2.2.1); simp [frameOf, goFrame, h68]; go_simp; exact ⟨HI.out, Below.refl _ _, rfl⟩
            · have h67 : f 67 = .int .u32 (bits .xor .u32 (rotN 7 x) (rotN 18 x)) := (by first | exact haf.1 | exact haf.2.1 | exact haf.2.2.1 | exact haf.2.2.2.1 | exact haf.2.2.2.2.1); have h69 : f 69 = .int .u32 (x / 8) := (by first | exact haf.1 | exact haf.2.1 | exact haf.2.2.1 | exact haf.2.2.2.1 | exact haf.2.2.2.2.1); simp [frameOf, goFrame, h67, h69]; go_simp; exact ⟨HI.out, Below.refl _ _, rfl⟩
            · have h62 : f 62 = .int .u32 (W (i - 16)) := (by first | exact haf.1 | exact haf.2.1 | exact haf.2.2.1 | exact haf.2.2.2.1 | exact haf.2.2.2.2.1); have h70 : f 70 = .int .u32 (bits .xor .u32 (bits .xor .u32 (rotN 7 x) (rotN 18 x)) (x / 8)) := (by first | exact haf.1 | exact haf.2.1 | exact haf.2.2.1 | exact haf.2.2.2.1 | exact haf.2.2.2.2.1); simp [frameOf, goFrame, h62, h70]; go_simp; exact ⟨HI.out, Below.refl _ _, rfl⟩
            · simp [frameOf, goFrame]; go_simp; exact ⟨HI.out, Below.refl _ _, rfl⟩
            · have h72 : f 72 = .int .i64 (i : Int) := (by first | exact haf.1 | exact haf.2.1 | exact haf.2.2.1 | exact haf.2.2.2.1 | exact haf.2.2.2.2.1); have zz : IntKind.i64.wrap ((i : Int) - 7) = (i : Int) - 7 := IntWalk.i64_in _ (by omega); simp [frameOf, goFrame, h72]; go_simp; exact ⟨HI.out, Below.refl _ _, rfl⟩
            · have h73 : f 73 = .int .i64 ((i : Int) - 7) := (by first | exact haf.1 | exact haf.2.1 | exact haf.2.2.1 | exact haf.2.2.2.1 | exact haf.2.2.2.2.1); have yy : 0 ≤ (i : Int) - 7 ∧ (i : Int) - 7 < 64 := ⟨by omega, by omega⟩; have tt : ((i : Int) - 7).toNat = i - 7 := (by omega); have qq : (7 : Int) ≤ (i : Int) := (by omega); simp [frameOf, goFrame, h73]; go_simp; exact ⟨HI.out, Below.refl _ _, rfl⟩
            · have h74 : f 74 = .pointer (some ⟨gw, i - 7, none⟩) := (by first | exact haf.1 | exact haf.2.1 | exact haf.2.2.1 | exact haf.2.2.2.1 | exact haf.2.2.2.2.1); have cc := HC_gw.out wx HI.out (i - 7) (by omega); simp [frameOf, goFrame, h74]; go_simp; exact ⟨HI.out, Below.refl _ _, rfl⟩
            · have h71 : f 71 = .int .u32 (add32 (W (i - 16)) (bits .xor .u32 (bits .xor .u32 (rotN 7 x) (rotN 18 x)) (x / 8))) := (by first | exact haf.1 | exact haf.2.1 | exact haf.2.2.1 | exact haf.2.2.2.1 | exact haf.2.2.2.2.1); have h75 : f 75 = .int .u32 (W (i - 7)) := (by first | exact haf.1 | exact haf.2.1 | exact haf.2.2.1 | exact haf.2.2.2.1 | exact haf.2.2.2.2.1); simp [frameOf, goFrame, h71, h75]; go_simp; exact ⟨HI.out, Below.refl _ _, rfl⟩
            · simp [frameOf, goFrame]; go_simp; exact ⟨HI.out, Below.refl _ _, rfl⟩
            · have h77 : f 77 = .int .u32 y := (by first | exact haf.1 | exact haf.2.1 | exact haf.2.2.1 | exact haf.2.2.2.1 | exact haf.2.2.2.2.1); simp [frameOf, goFrame, h77]; go_simp; refine (right_any y 17 wx ((HB_y.1)) ((HB_y.2)) (by unfold isTurn; omega)).mono ?_; rintro e wy ⟨rfl, rfl⟩; exact ⟨HI.out, Below.refl _ _, rfl⟩
            · simp [frameOf, goFrame]; go_simp; exact ⟨HI.out, Below.refl _ _, rfl⟩
            · have h79 : f 79 = .int .u32 y := (by first | exact haf.1 | exact haf.2.1 | exact haf.2.2.1 | exact haf.2.2.2.1 | exact haf.2.2.2.2.1); simp [frameOf, goFrame, h79]; go_simp; refine (right_any y 19 wx ((HB_y.1)) ((HB_y.2)) (by unfold isTurn; omega)).mono ?_; rintro e wy ⟨rfl, rfl⟩; exact ⟨HI.out, Below.refl _ _, rfl⟩
            · have h78 : f 78 = .int .u32 (rotN 17 y) := (by first | exact haf.1 | exact haf.2.1 | exact haf.2.2.1 | exact haf.2.2.2.1 | exact haf.2.2.2.2.1); have h80 : f 80 = .int .u32 (rotN 19 y) := (by first | exact haf.1 | exact haf.2.1 | exact haf.2.2.1 | exact haf.2.2.2.1 | exact haf.2.2.2.2.1); simp [frameOf, goFrame, h78, h80]; go_simp; exact ⟨HI.out, Below.refl _ _, rfl⟩
            · simp [frameOf, goFrame]; go_simp; exact ⟨HI.out, Below.refl _ _, rfl⟩
            · have h82 : f 82 = .int .u32 y := (by first | exact haf.1 | exact haf.2.1 | exact haf.2.2.1 | exact haf.2.2.2.1 | exact haf.2.2.2.2.1); simp [frameOf, goFrame, h82]; go_simp; exact ⟨HI.out, Below.refl _ _, rfl⟩
            · have h81 : f 81 = .int .u32 (bits .xor .u32 (rotN 17 y) (rotN 19 y)) := (by first | exact haf.1 | exact haf.2.1 | exact haf.2.2.1 | exact haf.2.2.2.1 | exact haf.2.2.2.2.1); have h83 : f 83 = .int .u32 (y / 1024) := (by first | exact haf.1 | exact haf.2.1 | exact haf.2.2.1 | exact haf.2.2.2.1 | exact haf.2.2.2.2.1); simp [frameOf, goFrame, h81, h83]; go_simp; exact ⟨HI.out, Below.refl _ _, rfl⟩
            · have h76 : f 76 = .int .u32 (add32 (add32 (W (i - 16)) (bits .xor .u32 (bits .xor .u32 (rotN 7 x) (rotN 18 x)) (x / 8))) (W (i - 7))) := (by first | exact haf.1 | exact haf.2.1 | exact haf.2.2.1 | exact haf.2.2.2.1 | exact haf.2.2.2.2.1); have h84 : f 84 = .int .u32 (bits .xor .u32 (bits .xor .u32 (rotN 17 y) (rotN 19 y)) (y / 1024)) := (by first | exact haf.1 | exact haf.2.1 | exact haf.2.2.1 | exact haf.2.2.2.1 | exact haf.2.2.2.2.1); simp [frameOf, goFrame, h76, h84]; go_simp; exact ⟨HI.out, Below.refl _ _, rfl⟩
            · have h58 : f 58 = .int .i64 (i : Int) := (by first | exact haf.1 | exact haf.2.1 | exact haf.2.2.1 | exact haf.2.2.2.1 | exact haf.2.2.2.2.1); have yy : 0 ≤ (i : Int) ∧ (i : Int) < 64 := ⟨by omega, by omega⟩; have tt : ((i : Int)).toNat = i := (by omega); simp [frameOf, goFrame, h58]; go_simp; exact ⟨HI.out, Below.refl _ _, rfl⟩
          case fin =>
            intro n f wx hn hI hS hG
            have h86 : f 86 = .pointer (some ⟨gw, i, none⟩) := hG 28 _ 86 (by decide) rfl rfl
            have h85 : f 85 = .int .u32 (add32 (add32 (add32 (W (i - 16)) (bits .xor .u32 (bits .xor .u32 (rotN 7 x) (rotN 18 x)) (x / 8))) (W (i - 7))) (bits .xor .u32 (bits .xor .u32 (rotN 17 y) (rotN 19 y)) (y / 1024))) := hG 27 _ 85 (by decide) rfl rfl
            have h86 : f 86 = .pointer (some ⟨gw, i, none⟩) := hG 28 _ 86 (by decide) rfl rfl
            have hO := HOz.out.below hI (Nat.le_refl _)
            have ci := hO.cell (i := i) hlt
            have fi := hO.frozen i
            have HOx := Lib.hid hO
            have HHx := Lib.hid (HHz.out.below hI (Nat.le_refl _))
            have HRx := Lib.hid (HRz.out.below hI (Nat.le_refl _))
            have HBx := Lib.hid (HBz.out.trans (hI.mono HBz.out.size))
            clear hG hS hn hI HC_gw hO
            simp [frameOf, goFrame, TailOk, h85, h86]
            go_simp
            try simp only [TailOk, List.drop]
            go_wp2_with fail
            go_roundw
            case rel =>
              refine ⟨i + 1, by go_num, by omega, by omega, ?_, HHx.out.of_block ?_, HRx.out.of_block ?_, HBx.out.setCell (show w.heap.size ≤ gw by have := HGW.out; omega) _⟩
              · rw [HNX.out hlt]
                refine (HOx.out.set i _).congr fun j hj => ?_
                unfold nxtW
                rw [← HX.out, ← HY.out]
                rfl
              · simp [World.setCell, Array.getElem?_modify, Ne.symm hne1]
              · simp [World.setCell, Array.getElem?_modify, Ne.symm hne2]
            case measure => simp [intOf]; omega
        · have e64 : i = 64 := by omega
          subst e64
          rw [show ((64 : Nat) : Int) = 64 from rfl]
          have c0 := HH.out.cell (i := 0) (by omega)
          have c1 := HH.out.cell (i := 1) (by omega)
          have c2 := HH.out.cell (i := 2) (by omega)
          have c3 := HH.out.cell (i := 3) (by omega)
          have c4 := HH.out.cell (i := 4) (by omega)
          have c5 := HH.out.cell (i := 5) (by omega)
          have c6 := HH.out.cell (i := 6) (by omega)
          have c7 := HH.out.cell (i := 7) (by omega)
          go_wp2_with fail
          obtain ⟨wv, hwv⟩ : ∃ wv, wv = wq.alloc (.cells #[.int .u32 (H 0), .int .u32 (H 1), .int .u32 (H 2), .int .u32 (H 3), .int .u32 (H 4), .int .u32 (H 5), .int .u32 (H 6), .int .u32 (H 7)] 30) := ⟨_, rfl⟩
          obtain ⟨gv, hgv⟩ : ∃ gv, gv = wq.heap.size := ⟨_, rfl⟩
          have hbv : Below wq.heap.size wq wv := by rw [hwv]; exact (Below.refl _ _).alloc (Nat.le_refl _) _
          have hv : wv.heap[gv]? = some (.cells #[.int .u32 (H 0), .int .u32 (H 1), .int .u32 (H 2), .int .u32 (H 3), .int .u32 (H 4), .int .u32 (H 5), .int .u32 (H 6), .int .u32 (H 7)] 30 (0, 0)) := by rw [hwv, hgv]; exact blk_alloc_new wq _
          have HV0 : Hid (OwnU wv gv 8 (rnds H kF W 0)) := ⟨_, _, hv, fun i hi => by
            have : i = 0 ∨ i = 1 ∨ i = 2 ∨ i = 3 ∨ i = 4 ∨ i = 5 ∨ i = 6 ∨ i = 7 := by omega
            rcases this with rfl | rfl | rfl | rfl | rfl | rfl | rfl | rfl <;> rfl⟩
          have hgvw : gv ≠ gw := by have := HO.out.lt; omega
          have hgvh : gv ≠ gh := by have := HH.out.lt; omega
          have hgvr : gv ≠ gr := by have := HR.out.lt; omega
          have HOv := Lib.hid (HO.out.below hbv (Nat.le_refl _))
          have HHv := Lib.hid (HH.out.below hbv (Nat.le_refl _))
          have HRv := Lib.hid (HR.out.below hbv (Nat.le_refl _))
          have HBv := Lib.hid (HB.out.trans (hbv.mono HB.out.size))
          have hgvl : w.heap.size ≤ gv := by rw [hgv]; exact HB.out.size
          rw [← hwv, ← hgv]
          clear hwv hgv hbv hv HO HH HR HB c0 c1 c2 c3 c4 c5 c6 c7 hlt
          go_loopw [88] (fun v w' => ∃ i : Nat, v = .int .i64 i ∧ i ≤ 64 ∧ OwnU w' gv 8 (rnds H kF W i) ∧ OwnU w' gw 64 W ∧ OwnU w' gh 8 H ∧ OwnU w' gr 8 (fun _ => 0) ∧ Below w.heap.size w w') (fun v _ => 64 - (intOf v).toNat)
          case atStart => exact ⟨0, rfl, by omega, HV0.out, HOv.out, HHv.out, HRv.out, HBv.out⟩
          case round =>
            obtain ⟨i, rfl, hi, hv, ho, hh, hr, hb⟩ := hrel
            obtain ⟨wp, rfl⟩ : ∃ wp, wp = wr := ⟨_, rfl⟩
            clear HV0 HOv HHv HRv HBv
            have hvb := rnds_bd (K := kF) (W := W) HHB.out i
            have HNX : Hid (rnds H kF W (i + 1) = rnd (rnds H kF W i) kF W i) := rfl
            obtain ⟨V, hV⟩ : ∃ V, V = rnds H kF W i := ⟨_, rfl⟩
            rw [← hV] at hv hvb HNX
            have HVE := Lib.hid hV
            have HF_V := Lib.hid hvb
            have HV := Lib.hid hv
            have HO := Lib.hid ho
            have HH := Lib.hid hh
            have HR := Lib.hid hr
            have HB := Lib.hid hb
            clear hV hvb hv ho hh hr hb
            by_cases hlt : i < 64
            · have c0 := HV.out.cell (i := 0) (by omega)
              have c4 := HV.out.cell (i := 4) (by omega)
              have HB_e4 := HF_V.out 4
              have HB_a0 := HF_V.out 0
              obtain ⟨e4, he4⟩ : ∃ e4, e4 = V 4 := ⟨_, rfl⟩
              obtain ⟨a0, ha0⟩ : ∃ a0, a0 = V 0 := ⟨_, rfl⟩
              have HE4 := Lib.hid he4
              have HA0 := Lib.hid ha0
              rw [← he4] at c4 HB_e4
              rw [← ha0] at c0 HB_a0
              clear he4 ha0
              go_wp2_with fail
              go_quiet (fail)
              go_wp2_with fail
              obtain ⟨wz, hwz⟩ : ∃ wz, wz = wp.drewN nq := ⟨_, rfl⟩
              have hbz : Below wp.heap.size wp wz := by rw [hwz]; exact below_drewN (Below.refl _ _) nq
              have HVz := Lib.hid (HV.out.below hbz (Nat.le_refl _))
              have HOz := Lib.hid (HO.out.below hbz (Nat.le_refl _))
              have HHz := Lib.hid (HH.out.below hbz (Nat.le_refl _))
              have HRz := Lib.hid (HR.out.below hbz (Nat.le_refl _))
              have HBz := Lib.hid (HB.out.trans (hbz.mono HB.out.size))
              have HKz := Lib.hid (HKK.out.below HBz.out)
              have HC_gv : Hid (∀ wx, Below wz.heap.size wz wx → ∀ j, j < 8 → wx.cell? ⟨gv, j, none⟩ = some (.int .u32 (V j))) := fun wx h j hj => (HVz.out.below h (Nat.le_refl _)).cell hj
              have HC_gw : Hid (∀ wx, Below wz.heap.size wz wx → ∀ j, j < 64 → wx.cell? ⟨gw, j, none⟩ = some (.int .u32 (W j))) := fun wx h j hj => (HOz.out.below h (Nat.le_refl _)).cell hj
              have HC_1 : Hid (∀ wx, Below wz.heap.size wz wx → ∀ j, j < 64 → wx.cell? ⟨1, j, none⟩ = some (.int .u32 (kF j))) := fun wx h j hj => (HKz.out.below h).c j hj
              rw [← hwz]
              clear hwz hbz c0 c4 HV HO HH HR HB
              refine wp_region_tail 30 (by decide) (by kernel_rfl) [95, 96, 97, 98, 99, 100, 101, 102, 103, 104, 105, 106, 107, 108, 109, 110, 111, 112, 113, 114, 115, 116, 117, 118, 119, 120, 121, 122, 123, 124]
                (bi21G V W gv gw i e4) (fun n w' => Below wz.heap.size wz w') (fun w w' => Below w.heap.size w w') (fun w => Below.refl _ _) (fun _ _ _ h k => h.trans (k.mono h.size)) ?stable
                [95, 96, 97, 98, 99, 100, 101, 102, 103, 104, 105, 106, 107, 108, 109, 110, 111, 112, 113, 114, 115, 116, 117, 118, 119, 120, 121, 122, 123, 124, 16] (by kernel_rfl) (by kernel_rfl) (by kernel_rfl) ((Below.refl _ _).drew) ?step ?fin
              case stable => exact fun d v w w' hS hG => bi21_stable _ _ _ _ _ _ hS hG
              case step =>
                refine ⟨?_, ?_, ?_, ?_, ?_, ?_, ?_, ?_, ?_, ?_, ?_, ?_, ?_, ?_, ?_, ?_, ?_, ?_, ?_, ?_, ?_, ?_, ?_, ?_, ?_, ?_, ?_, ?_, ?_, ?_, trivial⟩
                all_goals intro n f wx hn hI hS haf
                all_goals have HI := Lib.hid hI
                all_goals clear hI hS
                · simp [frameOf, goFrame]; go_simp; exact ⟨HI.out, Below.refl _ _, rfl⟩
                · have h95 : f 95 = .pointer (some ⟨gv, 7, none⟩) := (by first | exact haf.1 | exact haf.2.1 | exact haf.2.2.1 | exact haf.2.2.2.1 | exact haf.2.2.2.2.1); have cc := HC_gv.out wx HI.out 7 (by omega); simp [frameOf, goFrame, h95]; go_simp; exact ⟨HI.out, Below.refl _ _, rfl⟩
                · simp [frameOf, goFrame]; go_simp; exact ⟨HI.out, Below.refl _ _, rfl⟩
                · have h97 : f 97 = .int .u32 e4 := (by first | exact haf.1 | exact haf.2.1 | exact haf.2.2.1 | exact haf.2.2.2.1 | exact haf.2.2.2.2.1); simp [frameOf, goFrame, h97]; go_simp; refine (right_any e4 6 wx ((HB_e4.1)) ((HB_e4.2)) (by unfold isTurn; omega)).mono ?_; rintro e wy ⟨rfl, rfl⟩; exact ⟨HI.out, Below.refl _ _, rfl⟩
                · simp [frameOf, goFrame]; go_simp; exact ⟨HI.out, Below.refl _ _, rfl⟩
                · have h99 : f 99 = .int .u32 e4 := (by first | exact haf.1 | exact haf.2.1 | exact haf.2.2.1 | exact haf.2.2.2.1 | exact haf.2.2.2.2.1); simp [frameOf, goFrame, h99]; go_simp; refine (right_any e4 11 wx ((HB_e4.1)) ((HB_e4.2)) (by unfold isTurn; omega)).mono ?_; rintro e wy ⟨rfl, rfl⟩; exact ⟨HI.out, Below.refl _ _, rfl⟩
                · have h98 : f 98 = .int .u32 (rotN 6 e4) := (by first | exact haf.1 | exact haf.2.1 | exact haf.2.2.1 | exact haf.2.2.2.1 | exact haf.2.2.2.2.1); have h100 : f 100 = .int .u32 (rotN 11 e4) := (by first | exact haf.1 | exact haf.2.1 | exact haf.2.2.1 | exact haf.2.2.2.1 | exact haf.2.2.2.2.1); simp [frameOf, goFrame, h98, h100]; go_simp; exact ⟨HI.out, Below.refl _ _, rfl⟩
                · simp [frameOf, goFrame]; go_simp; exact ⟨HI.out, Below.refl _ _, rfl⟩
                · have h102 : f 102 = .int .u32 e4 := (by first | exact haf.1 | exact haf.2.1 | exact haf.2.2.1 | exact haf.2.2.2.1 | exact haf.2.2.2.2.1); simp [frameOf, goFrame, h102]; go_simp; refine (right_any e4 25 wx ((HB_e4.1)) ((HB_e4.2)) (by unfold isTurn; omega)).mono ?_; rintro e wy ⟨rfl, rfl⟩; exact ⟨HI.out, Below.refl _ _, rfl⟩
                · have h101 : f 101 = .int .u32 (bits .xor .u32 (rotN 6 e4) (rotN 11 e4)) := (by first | exact haf.1 | exact haf.2.1 | exact haf.2.2.1 | exact haf.2.2.2.1 | exact haf.2.2.2.2.1); have h103 : f 103 = .int .u32 (rotN 25 e4) := (by first | exact haf.1 | exact haf.2.1 | exact haf.2.2.1 | exact haf.2.2.2.1 | exact haf.2.2.2.2.1); simp [frameOf, goFrame, h101, h103]; go_simp; exact ⟨HI.out, Below.refl _ _, rfl⟩
                · have h96 : f 96 = .int .u32 (V 7) := (by first | exact haf.1 | exact haf.2.1 | exact haf.2.2.1 | exact haf.2.2.2.1 | exact haf.2.2.2.2.1); have h104 : f 104 = .int .u32 (bits .xor .u32 (bits .xor .u32 (rotN 6 e4) (rotN 11 e4)) (rotN 25 e4)) := (by first | exact haf.1 | exact haf.2.1 | exact haf.2.2.1 | exact haf.2.2.2.1 | exact haf.2.2.2.2.1); simp [frameOf, goFrame, h96, h104]; go_simp; exact ⟨HI.out, Below.refl _ _, rfl⟩
                · simp [frameOf, goFrame]; go_simp; exact ⟨HI.out, Below.refl _ _, rfl⟩
                · simp [frameOf, goFrame]; go_simp; exact ⟨HI.out, Below.refl _ _, rfl⟩
                · have h107 : f 107 = .pointer (some ⟨gv, 5, none⟩) := (by first | exact haf.1 | exact haf.2.1 | exact haf.2.2.1 | exact haf.2.2.2.1 | exact haf.2.2.2.2.1); have cc := HC_gv.out wx HI.out 5 (by omega); simp [frameOf, goFrame, h107]; go_simp; exact ⟨HI.out, Below.refl _ _, rfl⟩
                · have h106 : f 106 = .int .u32 e4 := (by first | exact haf.1 | exact haf.2.1 | exact haf.2.2.1 | exact haf.2.2.2.1 | exact haf.2.2.2.2.1); have h108 : f 108 = .int .u32 (V 5) := (by first | exact haf.1 | exact haf.2.1 | exact haf.2.2.1 | exact haf.2.2.2.1 | exact haf.2.2.2.2.1); simp [frameOf, goFrame, h106, h108]; go_simp; exact ⟨HI.out, Below.refl _ _, rfl⟩
                · simp [frameOf, goFrame]; go_simp; exact ⟨HI.out, Below.refl _ _, rfl⟩
                · have h110 : f 110 = .int .u32 e4 := (by first | exact haf.1 | exact haf.2.1 | exact haf.2.2.1 | exact haf.2.2.2.1 | exact haf.2.2.2.2.1); simp [frameOf, goFrame, h110]; go_simp; exact ⟨HI.out, Below.refl _ _, rfl⟩
                · simp [frameOf, goFrame]; go_simp; exact ⟨HI.out, Below.refl _ _, rfl⟩
                · have h112 : f 112 = .pointer (some ⟨gv, 6, none⟩) := (by first | exact haf.1 | exact haf.2.1 | exact haf.2.2.1 | exact haf.2.2.2.1 | exact haf.2.2.2.2.1); have cc := HC_gv.out wx HI.out 6 (by omega); simp [frameOf, goFrame, h112]; go_simp; exact ⟨HI.out, Below.refl _ _, rfl⟩
                · have h111 : f 111 = .int .u32 (not32 e4) := (by first | exact haf.1 | exact haf.2.1 | exact haf.2.2.1 | exact haf.2.2.2.1 | exact haf.2.2.2.2.1); have h113 : f 113 = .int .u32 (V 6) := (by first | exact haf.1 | exact haf.2.1 | exact haf.2.2.1 | exact haf.2.2.2.1 | exact haf.2.2.2.2.1); simp [frameOf, goFrame, h111, h113]; go_simp; exact ⟨HI.out, Below.refl _ _, rfl⟩
                · have h109 : f 109 = .int .u32 (bits .and .u32 e4 (V 5)) := (by first | exact haf.1 | exact haf.2.1 | exact haf.2.2.1 | exact haf.2.2.2.1 | exact haf.2.2.2.2.1); have h114 : f 114 = .int .u32 (bits .and .u32 (not32 e4) (V 6)) := (by first | exact haf.1 | exact haf.2.1 | exact haf.2.2.1 | exact haf.2.2.2.1 | exact haf.2.2.2.2.1); simp [frameOf, goFrame, h109, h114]; go_simp; exact ⟨HI.out, Below.refl _ _, rfl⟩
                · have h105 : f 105 = .int .u32 (add32 (V 7) (bits .xor .u32 (bits .xor .u32 (rotN 6 e4) (rotN 11 e4)) (rotN 25 e4))) := (by first | exact haf.1 | exact haf.2.1 | exact haf.2.2.1 | exact haf.2.2.2.1 | exact haf.2.2.2.2.1); have h115 : f 115 = .int .u32 (bits .xor .u32 (bits .and .u32 e4 (V 5)) (bits .and .u32 (not32 e4) (V 6))) := (by first | exact haf.1 | exact haf.2.1 | exact haf.2.2.1 | exact haf.2.2.2.1 | exact haf.2.2.2.2.1); simp [frameOf, goFrame, h105, h115]; go_simp; exact ⟨HI.out, Below.refl _ _, rfl⟩
                · simp [frameOf, goFrame]; go_simp; exact ⟨HI.out, Below.refl _ _, rfl⟩
                · have h117 : f 117 = .int .i64 (i : Int) := (by first | exact haf.1 | exact haf.2.1 | exact haf.2.2.1 | exact haf.2.2.2.1 | exact haf.2.2.2.2.1); have yy : 0 ≤ (i : Int) ∧ (i : Int) < 64 := ⟨by omega, by omega⟩; have tt : ((i : Int)).toNat = i := (by omega); simp [frameOf, goFrame, h117]; go_simp; exact ⟨HI.out, Below.refl _ _, rfl⟩
                · have h118 : f 118 = .pointer (some ⟨1, i, none⟩) := (by first | exact haf.1 | exact haf.2.1 | exact haf.2.2.1 | exact haf.2.2.2.1 | exact haf.2.2.2.2.1); have cc := HC_1.out wx HI.out i (by omega); simp [frameOf, goFrame, h118]; go_simp; exact ⟨HI.out, Below.refl _ _, rfl⟩
                · have h116 : f 116 = .int .u32 (add32 (add32 (V 7) (bits .xor .u32 (bits .xor .u32 (rotN 6 e4) (rotN 11 e4)) (rotN 25 e4))) (bits .xor .u32 (bits .and .u32 e4 (V 5)) (bits .and .u32 (not32 e4) (V 6)))) := (by first | exact haf.1 | exact haf.2.1 | exact haf.2.2.1 | exact haf.2.2.2.1 | exact haf.2.2.2.2.1); have h119 : f 119 = .int .u32 (kF i) := (by first | exact haf.1 | exact haf.2.1 | exact haf.2.2.1 | exact haf.2.2.2.1 | exact haf.2.2.2.2.1); simp [frameOf, goFrame, h116, h119]; go_simp; exact ⟨HI.out, Below.refl _ _, rfl⟩
                · simp [frameOf, goFrame]; go_simp; exact ⟨HI.out, Below.refl _ _, rfl⟩
                · have h121 : f 121 = .int .i64 (i : Int) := (by first | exact haf.1 | exact haf.2.1 | exact haf.2.2.1 | exact haf.2.2.2.1 | exact haf.2.2.2.2.1); have yy : 0 ≤ (i : Int) ∧ (i : Int) < 64 := ⟨by omega, by omega⟩; have tt : ((i : Int)).toNat = i := (by omega); simp [frameOf, goFrame, h121]; go_simp; exact ⟨HI.out, Below.refl _ _, rfl⟩
                · have h122 : f 122 = .pointer (some ⟨gw, i, none⟩) := (by first | exact haf.1 | exact haf.2.1 | exact haf.2.2.1 | exact haf.2.2.2.1 | exact haf.2.2.2.2.1); have cc := HC_gw.out wx HI.out i (by omega); simp [frameOf, goFrame, h122]; go_simp; exact ⟨HI.out, Below.refl _ _, rfl⟩
                · have h120 : f 120 = .int .u32 (add32 (add32 (add32 (V 7) (bits .xor .u32 (bits .xor .u32 (rotN 6 e4) (rotN 11 e4)) (rotN 25 e4))) (bits .xor .u32 (bits .and .u32 e4 (V 5)) (bits .and .u32 (not32 e4) (V 6)))) (kF i)) := (by first | exact haf.1 | exact haf.2.1 | exact haf.2.2.1 | exact haf.2.2.2.1 | exact haf.2.2.2.2.1); have h123 : f 123 = .int .u32 (W i) := (by first | exact haf.1 | exact haf.2.1 | exact haf.2.2.1 | exact haf.2.2.2.1 | exact haf.2.2.2.2.1); simp [frameOf, goFrame, h120, h123]; go_simp; exact ⟨HI.out, Below.refl _ _, rfl⟩
              case fin =>
                intro n f wx hn hI hS hG
                have h124 : f 124 = .int .u32 (add32 (add32 (add32 (add32 (V 7) (bits .xor .u32 (bits .xor .u32 (rotN 6 e4) (rotN 11 e4)) (rotN 25 e4))) (bits .xor .u32 (bits .and .u32 e4 (V 5)) (bits .and .u32 (not32 e4) (V 6)))) (kF i)) (W i)) := hG 29 _ 124 (by decide) rfl rfl
                obtain ⟨wy, rfl⟩ : ∃ wy, wy = wx := ⟨_, rfl⟩
                have HVy := Lib.hid (HVz.out.below hI (Nat.le_refl _))
                have HOy := Lib.hid (HOz.out.below hI (Nat.le_refl _))
                have HHy := Lib.hid (HHz.out.below hI (Nat.le_refl _))
                have HRy := Lib.hid (HRz.out.below hI (Nat.le_refl _))
                have HBy := Lib.hid (HBz.out.trans (hI.mono HBz.out.size))
                clear hG hS hn hI HC_gv HC_gw HC_1
                have HC_gv : Hid (∀ wx, Below wy.heap.size wy wx → ∀ j, j < 8 → wx.cell? ⟨gv, j, none⟩ = some (.int .u32 (V j))) := fun wx h j hj => (HVy.out.below h (Nat.le_refl _)).cell hj
                simp [frameOf, goFrame, TailOk, h124]
                go_simp
                try simp only [TailOk, List.drop]
                go_wp2_with fail
                refine wp_region_tail 24 (by decide) (by kernel_rfl) [125, 126, 127, 128, 129, 130, 131, 132, 133, 134, 135, 136, 137, 138, 139, 140, 141, 142, 143, 144, 145, 146, 147, 148]
                  (bi22G V gv a0) (fun n w' => Below wy.heap.size wy w') (fun w w' => Below w.heap.size w w') (fun w => Below.refl _ _) (fun _ _ _ h k => h.trans (k.mono h.size)) ?stable
                  [125, 126, 127, 128, 129, 130, 131, 132, 133, 134, 135, 136, 137, 138, 139, 140, 141, 142, 143, 144, 145, 146, 147, 148, 17] (by kernel_rfl) (by kernel_rfl) (by kernel_rfl) ((Below.refl _ _).drew) ?step ?fin
                case stable => exact fun d v w w' hS hG => bi22_stable _ _ _ hS hG
                case step =>
                  refine ⟨?_, ?_, ?_, ?_, ?_, ?_, ?_, ?_, ?_, ?_, ?_, ?_, ?_, ?_, ?_, ?_, ?_, ?_, ?_, ?_, ?_, ?_, ?_, ?_, trivial⟩
                  all_goals intro n f wx hn hI hS haf
                  all_goals have HI := Lib.hid hI
                  all_goals clear hI hS
                  · simp [frameOf, goFrame]; go_simp; exact ⟨HI.out, Below.refl _ _, rfl⟩
                  · have h125 : f 125 = .int .u32 a0 := (by first | exact haf.1 | exact haf.2.1 | exact haf.2.2.1 | exact haf.2.2.2.1 | exact haf.2.2.2.2.1); simp [frameOf, goFrame, h125]; go_simp; refine (right_any a0 2 wx ((HB_a0.1)) ((HB_a0.2)) (by unfold isTurn; omega)).mono ?_; rintro e wy ⟨rfl, rfl⟩; exact ⟨HI.out, Below.refl _ _, rfl⟩
                  · simp [frameOf, goFrame]; go_simp; exact ⟨HI.out, Below.refl _ _, rfl⟩
                  · have h127 : f 127 = .int .u32 a0 := (by first | exact haf.1 | exact haf.2.1 | exact haf.2.2.1 | exact haf.2.2.2.1 | exact haf.2.2.2.2.1); simp [frameOf, goFrame, h127]; go_simp; refine (right_any a0 13 wx ((HB_a0.1)) ((HB_a0.2)) (by unfold isTurn; omega)).mono ?_; rintro e wy ⟨rfl, rfl⟩; exact ⟨HI.out, Below.refl _ _, rfl⟩
                  · have h126 : f 126 = .int .u32 (rotN 2 a0) := (by first | exact haf.1 | exact haf.2.1 | exact haf.2.2.1 | exact haf.2.2.2.1 | exact haf.2.2.2.2.1); have h128 : f 128 = .int .u32 (rotN 13 a0) := (by first | exact haf.1 | exact haf.2.1 | exact haf.2.2.1 | exact haf.2.2.2.1 | exact haf.2.2.2.2.1); simp [frameOf, goFrame, h126, h128]; go_simp; exact ⟨HI.out, Below.refl _ _, rfl⟩
                  · simp [frameOf, goFrame]; go_simp; exact ⟨HI.out, Below.refl _ _, rfl⟩
                  · have h130 : f 130 = .int .u32 a0 := (by first | exact haf.1 | exact haf.2.1 | exact haf.2.2.1 | exact haf.2.2.2.1 | exact haf.2.2.2.2.1); simp [frameOf, goFrame, h130]; go_simp; refine (right_any a0 22 wx ((HB_a0.1)) ((HB_a0.2)) (by unfold isTurn; omega)).mono ?_; rintro e wy ⟨rfl, rfl⟩; exact ⟨HI.out, Below.refl _ _, rfl⟩
                  · have h129 : f 129 = .int .u32 (bits .xor .u32 (rotN 2 a0) (rotN 13 a0)) := (by first | exact haf.1 | exact haf.2.1 | exact haf.2.2.1 | exact haf.2.2.2.1 | exact haf.2.2.2.2.1); have h131 : f 131 = .int .u32 (rotN 22 a0) := (by first | exact haf.1 | exact haf.2.1 | exact haf.2.2.1 | exact haf.2.2.2.1 | exact haf.2.2.2.2.1); simp [frameOf, goFrame, h129, h131]; go_simp; exact ⟨HI.out, Below.refl _ _, rfl⟩
                  · simp [frameOf, goFrame]; go_simp; exact ⟨HI.out, Below.refl _ _, rfl⟩
                  · simp [frameOf, goFrame]; go_simp; exact ⟨HI.out, Below.refl _ _, rfl⟩
                  · have h134 : f 134 = .pointer (some ⟨gv, 1, none⟩) := (by first | exact haf.1 | exact haf.2.1 | exact haf.2.2.1 | exact haf.2.2.2.1 | exact haf.2.2.2.2.1); have cc := HC_gv.out wx HI.out 1 (by omega); simp [frameOf, goFrame, h134]; go_simp; exact ⟨HI.out, Below.refl _ _, rfl⟩
                  · have h133 : f 133 = .int .u32 a0 := (by first | exact haf.1 | exact haf.2.1 | exact haf.2.2.1 | exact haf.2.2.2.1 | exact haf.2.2.2.2.1); have h135 : f 135 = .int .u32 (V 1) := (by first | exact haf.1 | exact haf.2.1 | exact haf.2.2.1 | exact haf.2.2.2.1 | exact haf.2.2.2.2.1); simp [frameOf, goFrame, h133, h135]; go_simp; exact ⟨HI.out, Below.refl _ _, rfl⟩
                  · simp [frameOf, goFrame]; go_simp; exact ⟨HI.out, Below.refl _ _, rfl⟩
                  · simp [frameOf, goFrame]; go_simp; exact ⟨HI.out, Below.refl _ _, rfl⟩
                  · have h138 : f 138 = .pointer (some ⟨gv, 2, none⟩) := (by first | exact haf.1 | exact haf.2.1 | exact haf.2.2.1 | exact haf.2.2.2.1 | exact haf.2.2.2.2.1); have cc := HC_gv.out wx HI.out 2 (by omega); simp [frameOf, goFrame, h138]; go_simp; exact ⟨HI.out, Below.refl _ _, rfl⟩
                  · have h137 : f 137 = .int .u32 a0 := (by first | exact haf.1 | exact haf.2.1 | exact haf.2.2.1 | exact haf.2.2.2.1 | exact haf.2.2.2.2.1); have h139 : f 139 = .int .u32 (V 2) := (by first | exact haf.1 | exact haf.2.1 | exact haf.2.2.1 | exact haf.2.2.2.1 | exact haf.2.2.2.2.1); simp [frameOf, goFrame, h137, h139]; go_simp; exact ⟨HI.out, Below.refl _ _, rfl⟩
                  · have h136 : f 136 = .int .u32 (bits .and .u32 a0 (V 1)) := (by first | exact haf.1 | exact haf.2.1 | exact haf.2.2.1 | exact haf.2.2.2.1 | exact haf.2.2.2.2.1); have h140 : f 140 = .int .u32 (bits .and .u32 a0 (V 2)) := (by first | exact haf.1 | exact haf.2.1 | exact haf.2.2.1 | exact haf.2.2.2.1 | exact haf.2.2.2.2.1); simp [frameOf, goFrame, h136, h140]; go_simp; exact ⟨HI.out, Below.refl _ _, rfl⟩
                  · simp [frameOf, goFrame]; go_simp; exact ⟨HI.out, Below.refl _ _, rfl⟩
                  · have h142 : f 142 = .pointer (some ⟨gv, 1, none⟩) := (by first | exact haf.1 | exact haf.2.1 | exact haf.2.2.1 | exact haf.2.2.2.1 | exact haf.2.2.2.2.1); have cc := HC_gv.out wx HI.out 1 (by omega); simp [frameOf, goFrame, h142]; go_simp; exact ⟨HI.out, Below.refl _ _, rfl⟩
                  · simp [frameOf, goFrame]; go_simp; exact ⟨HI.out, Below.refl _ _, rfl⟩
                  · have h144 : f 144 = .pointer (some ⟨gv, 2, none⟩) := (by first | exact haf.1 | exact haf.2.1 | exact haf.2.2.1 | exact haf.2.2.2.1 | exact haf.2.2.2.2.1); have cc := HC_gv.out wx HI.out 2 (by omega); simp [frameOf, goFrame, h144]; go_simp; exact ⟨HI.out, Below.refl _ _, rfl⟩
                  · have h143 : f 143 = .int .u32 (V 1) := (by first | exact haf.1 | exact haf.2.1 | exact haf.2.2.1 | exact haf.2.2.2.1 | exact haf.2.2.2.2.1); have h145 : f 145 = .int .u32 (V 2) := (by first | exact haf.1 | exact haf.2.1 | exact haf.2.2.1 | exact haf.2.2.2.1 | exact haf.2.2.2.2.1); simp [frameOf, goFrame, h143, h145]; go_simp; exact ⟨HI.out, Below.refl _ _, rfl⟩
                  · have h141 : f 141 = .int .u32 (bits .xor .u32 (bits .and .u32 a0 (V 1)) (bits .and .u32 a0 (V 2))) := (by first | exact haf.1 | exact haf.2.1 | exact haf.2.2.1 | exact haf.2.2.2.1 | exact haf.2.2.2.2.1); have h146 : f 146 = .int .u32 (bits .and .u32 (V 1) (V 2)) := (by first | exact haf.1 | exact haf.2.1 | exact haf.2.2.1 | exact haf.2.2.2.1 | exact haf.2.2.2.2.1); simp [frameOf, goFrame, h141, h146]; go_simp; exact ⟨HI.out, Below.refl _ _, rfl⟩
                  · have h132 : f 132 = .int .u32 (bits .xor .u32 (bits .xor .u32 (rotN 2 a0) (rotN 13 a0)) (rotN 22 a0)) := (by first | exact haf.1 | exact haf.2.1 | exact haf.2.2.1 | exact haf.2.2.2.1 | exact haf.2.2.2.2.1); have h147 : f 147 = .int .u32 (bits .xor .u32 (bits .xor .u32 (bits .and .u32 a0 (V 1)) (bits .and .u32 a0 (V 2))) (bits .and .u32 (V 1) (V 2))) := (by first | exact haf.1 | exact haf.2.1 | exact haf.2.2.1 | exact haf.2.2.2.1 | exact haf.2.2.2.2.1); simp [frameOf, goFrame, h132, h147]; go_simp; exact ⟨HI.out, Below.refl _ _, rfl⟩
                case fin =>
                  intro n f wx hn hI hS hG
                  have h148 : f 148 = .int .u32 (add32 (bits .xor .u32 (bits .xor .u32 (rotN 2 a0) (rotN 13 a0)) (rotN 22 a0)) (bits .xor .u32 (bits .xor .u32 (bits .and .u32 a0 (V 1)) (bits .and .u32 a0 (V 2))) (bits .and .u32 (V 1) (V 2)))) := hG 23 _ 148 (by decide) rfl rfl
                  obtain ⟨wu, rfl⟩ : ∃ wu, wu = wx := ⟨_, rfl⟩
                  have HVu := Lib.hid (HVy.out.below hI (Nat.le_refl _))
                  have HOu := Lib.hid (HOy.out.below hI (Nat.le_refl _))
                  have HHu := Lib.hid (HHy.out.below hI (Nat.le_refl _))
                  have HRu := Lib.hid (HRy.out.below hI (Nat.le_refl _))
                  have HBu := Lib.hid (HBy.out.trans (hI.mono HBy.out.size))
                  clear hG hS hn hI HC_gv
                  have c1 := HVu.out.cell (i := 1) (by omega)
                  have c2 := HVu.out.cell (i := 2) (by omega)
                  have c3 := HVu.out.cell (i := 3) (by omega)
                  have c5 := HVu.out.cell (i := 5) (by omega)
                  have c6 := HVu.out.cell (i := 6) (by omega)
                  have c0 := HVu.out.cell (i := 0) (by omega)
                  have c4 := HVu.out.cell (i := 4) (by omega)
                  have c7 := HVu.out.cell (i := 7) (by omega)
                  have f0 := HVu.out.frozen 0
                  have f1 := HVu.out.frozen 1
                  have f2 := HVu.out.frozen 2
                  have f3 := HVu.out.frozen 3
                  have f4 := HVu.out.frozen 4
                  have f5 := HVu.out.frozen 5
                  have f6 := HVu.out.frozen 6
                  have f7 := HVu.out.frozen 7
                  simp [frameOf, goFrame, TailOk, h148]
                  go_simp
                  try simp only [TailOk, List.drop]
                  obtain ⟨t1, ht1⟩ : ∃ t, t = add32 (add32 (add32 (add32 (V 7) (bits .xor .u32 (bits .xor .u32 (rotN 6 e4) (rotN 11 e4)) (rotN 25 e4))) (bits .xor .u32 (bits .and .u32 e4 (V 5)) (bits .and .u32 (not32 e4) (V 6)))) (kF i)) (W i) := ⟨_, rfl⟩
                  obtain ⟨t2, ht2⟩ : ∃ t, t = add32 (bits .xor .u32 (bits .xor .u32 (rotN 2 a0) (rotN 13 a0)) (rotN 22 a0)) (bits .xor .u32 (bits .xor .u32 (bits .and .u32 a0 (V 1)) (bits .and .u32 a0 (V 2))) (bits .and .u32 (V 1) (V 2))) := ⟨_, rfl⟩
                  rw [← ht1, ← ht2]
                  have HT1 : Hid (t1 = oneF V kF W i) := by
                    show _ = _
                    rw [ht1, HE4.out]
                    rfl
                  have HT2 : Hid (t2 = add32 (S0 (V 0)) (majF (V 0) (V 1) (V 2))) := by
                    show _ = _
                    rw [ht2, HA0.out]
                    rfl
                  clear ht1 ht2 h148 h124
                  go_wp2_with fail
                  go_roundw
                  case rel =>
                    refine ⟨i + 1, by go_num, by omega, ?_, HOu.out.of_block ?_, HHu.out.of_block ?_, HRu.out.of_block ?_, ?_⟩
                    · rw [HNX.out]
                      refine ((((((((HVu.out.set 0 _).set 1 _).set 2 _).set 3 _).set 4 _).set 5 _).set 6 _).set 7 _).congr fun j hj => ?_
                      have hj8 : j = 0 ∨ j = 1 ∨ j = 2 ∨ j = 3 ∨ j = 4 ∨ j = 5 ∨ j = 6 ∨ j = 7 := by omega
                      rcases hj8 with rfl | rfl | rfl | rfl | rfl | rfl | rfl | rfl
                      · simp only [setU, rnd]
                        rw [← HT1.out, HT2.out]
                        simp [add32]
                        omega
                      · simp [setU, rnd, HA0.out]
                      · simp [setU, rnd]
                      · simp [setU, rnd]
                      · simp only [setU, rnd]
                        rw [← HT1.out]
                        simp [add32]
                      · simp [setU, rnd, HE4.out]
                      · simp [setU, rnd]
                      · simp [setU, rnd]
                    · simp [World.setCell, Array.getElem?_modify, hgvw]
                    · simp [World.setCell, Array.getElem?_modify, hgvh]
                    · simp [World.setCell, Array.getElem?_modify, hgvr]
                    · exact (((((((HBu.out.setCell hgvl _).setCell hgvl _).setCell hgvl _).setCell hgvl _).setCell hgvl _).setCell hgvl _).setCell hgvl _).setCell hgvl _
                  case measure => simp [intOf]; omega
            · have e64 : i = 64 := by omega
              subst e64
              rw [show ((64 : Nat) : Int) = 64 from rfl]
              have HM0 : Hid (OwnU wp gh 8 (mixH H V 0)) := HH.out.congr fun j _ => by simp [mixH]
              have HVW : Hid (∀ j, add32 (H j) (V j) = blkI H (asmS (byteF s) 16 0) j) := by
                intro j
                rw [HVE.out, HWE.out]
                rfl
              clear hlt HO
              go_wp2_with fail
              go_loopw [168] (fun v w' => ∃ i : Nat, v = .int .i64 i ∧ i ≤ 8 ∧ OwnU w' gh 8 (mixH H V i) ∧ OwnU w' gv 8 V ∧ OwnU w' gr 8 (fun _ => 0) ∧ Below w.heap.size w w') (fun v _ => 8 - (intOf v).toNat)
              case atStart => exact ⟨0, rfl, by omega, HM0.out, HV.out, HR.out, HB.out⟩
              case round =>
                obtain ⟨i, rfl, hi, hm, hv, hr, hb⟩ := hrel
                obtain ⟨wn, rfl⟩ : ∃ wn, wn = wr := ⟨_, rfl⟩
                clear HM0 HV HR HB HH
                have HNM : Hid (∀ j, setU (mixH H V i) i (add32 (mixH H V i i) (V i)) j = mixH H V (i + 1) j) := by
                  intro j
                  simp only [setU, mixH]
                  by_cases e : j = i
                  · subst e
                    simp
                  · have e2 : (j < i + 1) ↔ (j < i) := by omega
                    simp [e, e2]
                have HM8 : Hid (i = 8 → ∀ j, j < 8 → mixH H V i j = add32 (H j) (V j)) := by
                  rintro rfl j hj
                  simp [mixH, hj]
                obtain ⟨M, hM⟩ : ∃ M, M = mixH H V i := ⟨_, rfl⟩
                rw [← hM] at hm HNM HM8
                have HM := Lib.hid hm
                have HV := Lib.hid hv
                have HR := Lib.hid hr
                have HB := Lib.hid hb
                clear hM hm hv hr hb
                by_cases hlt : i < 8
                · go_wp2_with fail
                  obtain ⟨wz, rfl⟩ : ∃ wz, wz = wn := ⟨_, rfl⟩
                  have HC_gh : Hid (∀ wx, Below wz.heap.size wz wx → ∀ j, j < 8 → wx.cell? ⟨gh, j, none⟩ = some (.int .u32 (M j))) := fun wx h j hj => (HM.out.below h (Nat.le_refl _)).cell hj
                  have HC_gv : Hid (∀ wx, Below wz.heap.size wz wx → ∀ j, j < 8 → wx.cell? ⟨gv, j, none⟩ = some (.int .u32 (V j))) := fun wx h j hj => (HV.out.below h (Nat.le_refl _)).cell hj
                  refine wp_region_tail 8 (by decide) (by kernel_rfl) [171, 172, 173, 174, 175, 176, 177, 178]
                    (bi28G M V gh gv i) (fun n w' => Below wz.heap.size wz w') (fun w w' => Below w.heap.size w w') (fun w => Below.refl _ _) (fun _ _ _ h k => h.trans (k.mono h.size)) ?stable
                    [171, 172, 173, 174, 175, 176, 177, 178] (by kernel_rfl) (by kernel_rfl) (by kernel_rfl) ((Below.refl _ _).drew) ?step ?fin
                  case stable => exact fun d v w w' hS hG => bi28_stable _ _ _ _ _ hS hG
                  case step =>
                    refine ⟨?_, ?_, ?_, ?_, ?_, ?_, ?_, ?_, trivial⟩
                    all_goals intro n f wx hn hI hS haf
                    all_goals have HI := Lib.hid hI
                    all_goals clear hI hS
                    · simp [frameOf, goFrame]; go_simp; exact ⟨HI.out, Below.refl _ _, rfl⟩
                    · have h171 : f 171 = .int .i64 (i : Int) := (by first | exact haf.1 | exact haf.2.1 | exact haf.2.2.1 | exact haf.2.2.2.1 | exact haf.2.2.2.2.1); have yy : 0 ≤ (i : Int) ∧ (i : Int) < 8 := ⟨by omega, by omega⟩; have tt : ((i : Int)).toNat = i := (by omega); simp [frameOf, goFrame, h171]; go_simp; exact ⟨HI.out, Below.refl _ _, rfl⟩
                    · have h172 : f 172 = .pointer (some ⟨gh, i, none⟩) := (by first | exact haf.1 | exact haf.2.1 | exact haf.2.2.1 | exact haf.2.2.2.1 | exact haf.2.2.2.2.1); have cc := HC_gh.out wx HI.out i (by omega); simp [frameOf, goFrame, h172]; go_simp; exact ⟨HI.out, Below.refl _ _, rfl⟩
                    · simp [frameOf, goFrame]; go_simp; exact ⟨HI.out, Below.refl _ _, rfl⟩
                    · have h174 : f 174 = .int .i64 (i : Int) := (by first | exact haf.1 | exact haf.2.1 | exact haf.2.2.1 | exact haf.2.2.2.1 | exact haf.2.2.2.2.1); have yy : 0 ≤ (i : Int) ∧ (i : Int) < 8 := ⟨by omega, by omega⟩; have tt : ((i : Int)).toNat = i := (by omega); simp [frameOf, goFrame, h174]; go_simp; exact ⟨HI.out, Below.refl _ _, rfl⟩
                    · have h175 : f 175 = .pointer (some ⟨gv, i, none⟩) := (by first | exact haf.1 | exact haf.2.1 | exact haf.2.2.1 | exact haf.2.2.2.1 | exact haf.2.2.2.2.1); have cc := HC_gv.out wx HI.out i (by omega); simp [frameOf, goFrame, h175]; go_simp; exact ⟨HI.out, Below.refl _ _, rfl⟩
                    · have h173 : f 173 = .int .u32 (M i) := (by first | exact haf.1 | exact haf.2.1 | exact haf.2.2.1 | exact haf.2.2.2.1 | exact haf.2.2.2.2.1); have h176 : f 176 = .int .u32 (V i) := (by first | exact haf.1 | exact haf.2.1 | exact haf.2.2.1 | exact haf.2.2.2.1 | exact haf.2.2.2.2.1); simp [frameOf, goFrame, h173, h176]; go_simp; exact ⟨HI.out, Below.refl _ _, rfl⟩
                    · have h171 : f 171 = .int .i64 (i : Int) := (by first | exact haf.1 | exact haf.2.1 | exact haf.2.2.1 | exact haf.2.2.2.1 | exact haf.2.2.2.2.1); have yy : 0 ≤ (i : Int) ∧ (i : Int) < 8 := ⟨by omega, by omega⟩; have tt : ((i : Int)).toNat = i := (by omega); simp [frameOf, goFrame, h171]; go_simp; exact ⟨HI.out, Below.refl _ _, rfl⟩
                  case fin =>
                    intro n f wx hn hI hS hG
                    have h178 : f 178 = .pointer (some ⟨gh, i, none⟩) := hG 7 _ 178 (by decide) rfl rfl
                    have h177 : f 177 = .int .u32 (add32 (M i) (V i)) := hG 6 _ 177 (by decide) rfl rfl
                    have HMx := Lib.hid (HM.out.below hI (Nat.le_refl _))
                    have HVx := Lib.hid (HV.out.below hI (Nat.le_refl _))
                    have HRx := Lib.hid (HR.out.below hI (Nat.le_refl _))
                    have HBx := Lib.hid (HB.out.trans (hI.mono HB.out.size))
                    have ci := HMx.out.cell (i := i) hlt
                    have fi := HMx.out.frozen i
                    clear hG hS hn hI HC_gh HC_gv
                    simp [frameOf, goFrame, TailOk, h177, h178]
                    go_simp
                    try simp only [TailOk, List.drop]
                    go_wp2_with fail
                    go_roundw
                    case rel =>
                      refine ⟨i + 1, by go_num, by omega, (HMx.out.set i _).congr fun j _ => HNM.out j, HVx.out.of_block ?_, HRx.out.of_block ?_, HBx.out.setCell (show w.heap.size ≤ gh by have := HGH.out; omega) _⟩
                      · simp [World.setCell, Array.getElem?_modify, Ne.symm hgvh]
                      · simp [World.setCell, Array.getElem?_modify, hne3]
                    case measure => simp [intOf]; omega
                · have e8 : i = 8 := by omega
                  subst e8
                  have hm := HM8.out rfl
                  have HMF : Hid (OwnU wn gh 8 (blkI H (asmS (byteF s) 16 0))) := HM.out.congr fun j hj => (hm j hj).trans (HVW.out j)
                  clear hm HM
                  have c0 := HMF.out.cell (i := 0) (by omega)
                  have c1 := HMF.out.cell (i := 1) (by omega)
                  have c2 := HMF.out.cell (i := 2) (by omega)
                  have c3 := HMF.out.cell (i := 3) (by omega)
                  have c4 := HMF.out.cell (i := 4) (by omega)
                  have c5 := HMF.out.cell (i := 5) (by omega)
                  have c6 := HMF.out.cell (i := 6) (by omega)
                  have c7 := HMF.out.cell (i := 7) (by omega)
                  have d0 := HR.out.cell (i := 0) (by omega)
                  have d1 := HR.out.cell (i := 1) (by omega)
                  have d2 := HR.out.cell (i := 2) (by omega)
                  have d3 := HR.out.cell (i := 3) (by omega)
                  have d4 := HR.out.cell (i := 4) (by omega)
                  have d5 := HR.out.cell (i := 5) (by omega)
                  have d6 := HR.out.cell (i := 6) (by omega)
                  have d7 := HR.out.cell (i := 7) (by omega)
                  have f0 := HR.out.frozen 0
                  have f1 := HR.out.frozen 1
                  have f2 := HR.out.frozen 2
                  have f3 := HR.out.frozen 3
                  have f4 := HR.out.frozen 4
                  have f5 := HR.out.frozen 5
                  have f6 := HR.out.frozen 6
                  have f7 := HR.out.frozen 7
                  have hgr0 : w.heap.size ≤ gr := by have := HGR.out; omega
                  go_wp2_with fail
                  refine bodyPost_ret (v := aggU (blkI H (asmS (byteF s) 16 0))) (by simp [results, Tryd.results11, go_sem, aggU, d0, d1, d2, d3, d4, d5, d6, d7]) rfl ⟨rfl, ?_⟩
                  exact (((((((HB.out.setCell hgr0 _).setCell hgr0 _).setCell hgr0 _).setCell hgr0 _).setCell hgr0 _).setCell hgr0 _).setCell hgr0 _).setCell hgr0 _
end My
end Go.Proofs.YtabpkabeabemmaaDoor
