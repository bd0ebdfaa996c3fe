/- SHA-256: the plain law: the program's sum is the reference's. -/
import Derived.Test.YtabpkabeabemmaaDoorHashU
import Derived.Test.YtabpkabeabemmaaDoorHashL
namespace Go.Proofs.YtabpkabeabemmaaDoor
open Go.RowKit Go.Deep
set_option linter.unusedVariables false
namespace My

theorem rnd_congr {F K W W' : Nat → Int} {i : Nat} (h : W i = W' i) : rnd F K W i = rnd F K W' i := by
  funext j
  have e : oneF F K W i = oneF F K W' i := by unfold oneF; rw [h]
  unfold rnd
  rw [e]
theorem rnds_congr {F K W W' : Nat → Int} : ∀ n, (∀ j, j < n → W j = W' j) → rnds F K W n = rnds F K W' n
  | 0, _ => rfl
  | n + 1, h => by
    simp only [rnds]
    rw [rnds_congr n fun j hj => h j (by omega)]
    exact rnd_congr (h n (by omega))
theorem or8' (a b : Int) (ha : 0 ≤ a) (ha2 : a < 16777216) (hb : 0 ≤ b) (hb2 : b ≤ 255) : bits .or .u32 (a * 256 % 4294967296) b = a * 256 + b := or8 a b ha ha2 hb hb2
theorem asmW_val {B : Nat → Int} (lo : ∀ j, 0 ≤ B j) (hi : ∀ j, B j ≤ 255) (k : Nat) : asmW B k 4 = ((B (4 * k) * 256 + B (4 * k + 1)) * 256 + B (4 * k + 2)) * 256 + B (4 * k + 3) := by
  have l0 := lo (4 * k); have l1 := lo (4 * k + 1); have l2 := lo (4 * k + 2); have l3 := lo (4 * k + 3)
  have h0 := hi (4 * k); have h1 := hi (4 * k + 1); have h2 := hi (4 * k + 2); have h3 := hi (4 * k + 3)
  have e1 : asmW B k 1 = B (4 * k) := by
    show bits .or .u32 (0 * 256 % 4294967296) (B (4 * k + 0)) = _
    rw [or8 0 _ (by omega) (by omega) (by simpa using l0) (by simpa using h0)]; simp
  have e2 : asmW B k 2 = B (4 * k) * 256 + B (4 * k + 1) := by
    show bits .or .u32 (asmW B k 1 * 256 % 4294967296) (B (4 * k + 1)) = _
    rw [e1, or8 _ _ (by omega) (by omega) l1 h1]
  have e3 : asmW B k 3 = (B (4 * k) * 256 + B (4 * k + 1)) * 256 + B (4 * k + 2) := by
    show bits .or .u32 (asmW B k 2 * 256 % 4294967296) (B (4 * k + 2)) = _
    rw [e2, or8 _ _ (by omega) (by omega) l2 h2]
  show bits .or .u32 (asmW B k 3 * 256 % 4294967296) (B (4 * k + 3)) = _
  rw [e3, or8 _ _ (by omega) (by omega) l3 h3]
theorem blk_same {H B : Nat → Int} (lo : ∀ j, 0 ≤ B j) (hi : ∀ j, B j ≤ 255) : blkF H B = blkI H (asmS B 16 0) := by
  funext j
  unfold blkF blkI
  rw [rnds_congr 64 fun i hi2 => sched_congr (G := asmS B 16 0) (fun j hj => ?_) 48 i (by omega)]
  rw [word4_val lo hi, show asmS B 16 0 j = asmW B j 4 from by unfold asmS; rw [if_pos hj], asmW_val lo hi]
theorem h_same (P : List UInt8) : ∀ n, hN (bytF P) n = hI (bytF P) n
  | 0 => rfl
  | n + 1 => by
    simp only [hN, hI]
    rw [h_same P n]
    exact blk_same (fun j => bytF_lo _ _) (fun j => bytF_hi _ _)

/-- A number in k figures of base 16. -/
def hexP : Nat → Nat → List UInt8
  | 0, _ => []
  | k + 1, u => hexP k (u / 16) ++ [hexD (u % 16)]
theorem hexP_zero : ∀ k, hexP k 0 = List.replicate k 48
  | 0 => rfl
  | k + 1 => by
    rw [hexP, show 0 / 16 = 0 from rfl, hexP_zero k, List.replicate_succ']
    rfl
theorem hexP_pad : ∀ k u, u < 16 ^ (k + 1) → List.replicate (k + 1 - (hexL u).length) 48 ++ hexL u = hexP (k + 1) u
  | k, u, h => by
    by_cases c : u < 16
    · rw [hexL_small c, hexP, show u / 16 = 0 from by omega, hexP_zero, show u % 16 = u from by omega]
      rfl
    · cases k with
      | zero => simp at h; omega
      | succ k =>
        have ih := hexP_pad k (u / 16) (by rw [Nat.pow_succ] at h; omega)
        rw [hexL_big c, hexP, ← ih, List.length_append, List.length_singleton, ← List.append_assoc]
        congr 3
        omega
theorem pad8_hexP (u : Nat) (h : u < 4294967296) : pad8 (hexL u) = hexP 8 u := by
  unfold pad8
  rw [repL0]
  exact hexP_pad 7 u (by omega)
theorem by8_nat (u : Nat) : (by8 (u : Int)).toNat = u % 256 := by
  unfold by8
  rw [UInt8.toNat_ofNat']
  simp
theorem word_hex (u : Nat) (h : u < 4294967296) : hexAll (word4b (u : Int)) = hexP 8 u := by
  have e1 : ((u : Int) / 16777216) = ((u / 16777216 : Nat) : Int) := by omega
  have e2 : ((u : Int) / 65536) = ((u / 65536 : Nat) : Int) := by omega
  have e3 : ((u : Int) / 256) = ((u / 256 : Nat) : Int) := by omega
  unfold word4b
  rw [e1, e2, e3]
  simp only [hexAll, List.flatMap_cons, List.flatMap_nil, hex2, by8_nat, hexP, List.nil_append, List.append_nil, List.cons_append]
  have f1 : u / 16777216 % 256 / 16 = u / 16 / 16 / 16 / 16 / 16 / 16 / 16 % 16 := by omega
  have f2 : u / 16777216 % 256 % 16 = u / 16 / 16 / 16 / 16 / 16 / 16 % 16 := by omega
  have f3 : u / 65536 % 256 / 16 = u / 16 / 16 / 16 / 16 / 16 % 16 := by omega
  have f4 : u / 65536 % 256 % 16 = u / 16 / 16 / 16 / 16 % 16 := by omega
  have f5 : u / 256 % 256 / 16 = u / 16 / 16 / 16 % 16 := by omega
  have f6 : u / 256 % 256 % 16 = u / 16 / 16 % 16 := by omega
  have f7 : u % 256 / 16 = u / 16 % 16 := by omega
  have f8 : u % 256 % 16 = u % 16 := by omega
  rw [f1, f2, f3, f4, f5, f6, f7, f8]
theorem hexAll_app (a b : List UInt8) : hexAll (a ++ b) = hexAll a ++ hexAll b := by unfold hexAll; rw [List.flatMap_append]
theorem sum_hex {F : Nat → Int} (hF : ∀ i, W32 (F i)) : ∀ n, hexAll (sumL F n) = hexW F n
  | 0 => rfl
  | n + 1 => by
    rw [sumL_succ, hexW_succ, hexAll_app, sum_hex hF n]
    congr 1
    obtain ⟨u, hu⟩ : ∃ u : Nat, F n = (u : Int) := ⟨(F n).toNat, by have := (hF n).1; omega⟩
    have hub : u < 4294967296 := by have := (hF n).2; omega
    rw [hu, word_hex u hub, Int.toNat_natCast, pad8_hexP u hub]
/-- The sum of a text, in figures. -/
def shaT (T : List UInt8) : List UInt8 := hexW (hI (bytF (padL T)) ((padL T).length / 64)) 8
theorem spec_shaT (T : List UInt8) : hexAll (sumL (hN (bytF (padL T)) ((padL T).length / 64)) 8) = shaT T := by
  unfold shaT
  rw [sum_hex (hN_bd _ _), h_same]
theorem shaT_length (T : List UInt8) : (shaT T).length = 64 := hexW_length (hI_bd _ _) 8
theorem iHash_sha (s : ByteArray) (w : World) (hs : s.size ≤ 1048576) (hE : EnvH w) : Calls Tryd.prog 6 #[.string s] w (StrPost (shaT s.data.toList) w) := iHash_any s w hs hE
theorem sHash_sha (s : ByteArray) (w : World) (hs : s.size ≤ 1048576) : Calls Tryd.prog 5 #[.string s] w (StrPost (shaT s.data.toList) w) := by
  have := specSum_any s w hs
  rw [spec_shaT] at this
  exact this

set_option maxRecDepth 100000 in
set_option maxHeartbeats 4000000 in
theorem FnExactHashSum_law (s : ByteArray) (w : World) (hE : EnvH w) : Calls Tryd.prog 3 #[.string s] w fun e w' => e = .returned (.bool true) ∧ Below w.heap.size w w' := by
  have HE := Lib.hid hE
  clear hE
  by_cases hs : s.size ≤ 1048576
  · have HI := Lib.hid (fun wx h => iHash_sha s wx hs h)
    have HS := Lib.hid (sHash_sha s w hs)
    obtain ⟨L, hL⟩ : ∃ L, L = shaT s.data.toList := ⟨_, rfl⟩
    rw [← hL] at HS
    simp only [← hL] at HI
    clear hL
    go_enter Tryd.func3, Tryd.ntmps3
    go_wp2_with fail
    refine HS.out.mono ?_
    rintro e w1 ⟨rfl, b1⟩
    have HB1 := Lib.hid b1
    clear b1
    go_wp2_with fail
    refine (HI.out _ (HE.out.below HB1.out)).mono ?_
    rintro e w2 ⟨rfl, b2⟩
    have HB2 := Lib.hid (bT HB1.out b2 HB1.out.size)
    clear b2
    go_wp2_with fail
    go_ret
    exact ⟨rfl, HB2.out⟩
  · have hs2 : (1048576 : Int) < s.size := by omega
    go_enter Tryd.func3, Tryd.ntmps3
    go_wp2_with fail
    go_ret
    exact ⟨rfl, Below.refl _ _⟩
end My
end Go.Proofs.YtabpkabeabemmaaDoor
