/- SHA-256: the program's sum. -/
import Derived.Test.YtabpkabeabemmaaDoorHashT
import Derived.Test.YtabpkabeabemmaaDoorHashI
import Derived.Test.YtabpkabeabemmaaDoorShelfA
namespace Go.Proofs.YtabpkabeabemmaaDoor
open Go.RowKit Go.Deep
set_option linter.unusedVariables false
namespace My

theorem conv_one {w : World} {g : Nat} {c : Int} {b : UInt8} (hb : c = b.toNat) (h : w.cell? ⟨g, 0, none⟩ = some (.int .u8 c)) :
    (convert 24 9 (.slice (some ⟨g, 0, none⟩) 1 1)).run Tryd.prog w = .ok (.string (txt [b])) w := by
  refine run_convert_bytes_back (P := Tryd.prog) w 24 9 5 ⟨g, 0, none⟩ 1 [b] Tryd.underlying24 Tryd.underlying5 Tryd.underlying9 ?_
  intro j hj
  have hj : j = 0 := by simpa using hj
  subst hj
  rw [show (⟨g, 0, none⟩ : Addr).add 0 = ⟨g, 0, none⟩ from rfl, h, hb]
  rfl
theorem isBuilder_below {T e : TypeId} {B b : Nat} {bs : List Value} {w w' : World} (h : Lib.IsBuilder T e B b bs w) (hb : Below w.heap.size w w') : Lib.IsBuilder T e B b bs w' := by
  have gen : ∀ p, Lib.BuilderAt T e B b p bs w → Lib.BuilderAt T e B b p bs w' := by
    rintro p ⟨hB, v, hh, hown, hne⟩
    have hlt : b < w.heap.size := Lib.BuilderAt.lt ⟨hB, v, hh, hown, hne⟩
    refine ⟨hB, v, (hb.block b hlt).trans hh, ?_, hne⟩
    exact hown.kept (row := none) ⟨hb.os, hb.tape, hb.output, hb.size, fun k hk _ => hb.block k hk⟩ (by cases hv : v.ownBlock with
      | none => exact Or.inl rfl
      | some x => exact Or.inr (by simp))
  exact h.elim (fun x => Or.inl (gen _ x)) (fun x => Or.inr (gen _ x))
def hI (B : Nat → Int) : Nat → Nat → Int
  | 0 => rootF
  | k + 1 => blkI (hI B k) (asmS (fun j => B (64 * k + j)) 16 0)
theorem hI_bd (B : Nat → Int) : ∀ k i, W32 (hI B k i)
  | 0, i => rootF_bd i
  | k + 1, i => by unfold hI blkI W32 add32; omega
/-- What the listed variables hold. -/
structure EnvH (w : World) : Prop where
  r : InU w 0 8 rootF
  k : InU w 1 64 kF
  t : Tz w
theorem EnvH.below {w w' : World} (h : EnvH w) (hb : Below w.heap.size w w') : EnvH w' := ⟨h.r.below hb, h.k.below hb, h.t.below hb⟩
def pad8 (l : List UInt8) : List UInt8 := Lib.repeatL [48] (8 - l.length) ++ l
def hexW (F : Nat → Int) (n : Nat) : List UInt8 := (List.range n).flatMap fun i => pad8 (hexL (F i).toNat)
theorem hexW_succ (F : Nat → Int) (n : Nat) : hexW F (n + 1) = hexW F n ++ pad8 (hexL (F n).toNat) := by simp [hexW, List.range_succ]
theorem hexL_len : ∀ (k u : Nat), u < 16 ^ (k + 1) → (hexL u).length ≤ k + 1
  | 0, u, h => by rw [hexL_small (by simpa using h)]; exact Nat.le_refl _
  | k + 1, u, h => by
    by_cases c : u < 16
    · rw [hexL_small c]; simp
    · rw [hexL_big c]
      have := hexL_len k (u / 16) (by rw [Nat.pow_succ] at h; omega)
      simp; omega
theorem repL0 (b : UInt8) : ∀ c, Lib.repeatL [b] c = List.replicate c b
  | 0 => rfl
  | c + 1 => by rw [Lib.repeatL, repL0 b c]; rfl
theorem hexW_length {F : Nat → Int} (h : ∀ i, W32 (F i)) : ∀ n, (hexW F n).length = 8 * n
  | 0 => rfl
  | n + 1 => by
    rw [hexW_succ, List.length_append, hexW_length h n]
    have h1 := hexL_len 7 (F n).toNat (by have := (h n).2; omega)
    have h2 : (Lib.repeatL [48] (8 - (hexL (F n).toNat).length)).length = 8 - (hexL (F n).toNat).length := by rw [repL0, List.length_replicate]
    unfold pad8
    rw [List.length_append, h2]; omega
theorem slice_fromU (s : ByteArray) (u : Nat) (h : u ≤ s.size) (wx : World) :
    (Instr.slice 9 (.string s) (some (.int .i64 (u : Int))) none none).run Tryd.prog wx = .ok (.string (s.extract u s.size)) wx := by
  have hj : (0 : Int) ≤ u ∧ (u : Int) ≤ (s.size : Int) := ⟨by omega, by omega⟩
  simp [Instr.slice, Instr.sliceBounds, Instr.sliceBound, asIntOf, run_underlying (Tryd.underlying9), h]
theorem index8 (F : Nat → Int) (i : Nat) (hi : i < 8) (wx : World) : (Instr.index 30 (aggU F) (.int .i64 (i : Int))).run Tryd.prog wx = .ok (.int .u32 (F i)) wx := by
  have : i = 0 ∨ i = 1 ∨ i = 2 ∨ i = 3 ∨ i = 4 ∨ i = 5 ∨ i = 6 ∨ i = 7 := by omega
  rcases this with rfl | rfl | rfl | rfl | rfl | rfl | rfl | rfl <;> simp [aggU, Instr.index, asIntOf, run_underlying (Tryd.underlying30), go_sem]
def strLen : Value → Nat
  | .string s => s.size
  | _ => 0
theorem byteF_drop (P : List UInt8) (k : Nat) : byteF (txt (P.drop k)) = fun j => bytF P (k + j) := by
  funext j
  unfold byteF bytF
  rw [txt_data, List.getD_eq_getElem?_getD, List.getD_eq_getElem?_getD, List.getElem?_drop]
theorem own8 {w : World} {g : Nat} {F G : Nat → Int} (h : OwnU w g 8 F) :
    OwnU ((((((((w.setCell ⟨g, 0, none⟩ (.int .u32 (G 0))).setCell ⟨g, 1, none⟩ (.int .u32 (G 1))).setCell ⟨g, 2, none⟩ (.int .u32 (G 2))).setCell ⟨g, 3, none⟩ (.int .u32 (G 3))).setCell ⟨g, 4, none⟩ (.int .u32 (G 4))).setCell ⟨g, 5, none⟩ (.int .u32 (G 5))).setCell ⟨g, 6, none⟩ (.int .u32 (G 6))).setCell ⟨g, 7, none⟩ (.int .u32 (G 7))) g 8 G := by
  refine ((((((((h.set 0 (G 0)).set 1 (G 1)).set 2 (G 2)).set 3 (G 3)).set 4 (G 4)).set 5 (G 5)).set 6 (G 6)).set 7 (G 7)).congr fun i hi => ?_
  have : i = 0 ∨ i = 1 ∨ i = 2 ∨ i = 3 ∨ i = 4 ∨ i = 5 ∨ i = 6 ∨ i = 7 := by omega
  rcases this with rfl | rfl | rfl | rfl | rfl | rfl | rfl | rfl <;> rfl
set_option maxRecDepth 100000 in
set_option maxHeartbeats 8000000 in
theorem iHash_any (s : ByteArray) (w : World) (hs : s.size ≤ 1048576) (hE : EnvH w) :
    Calls Tryd.prog 6 #[.string s] w (StrPost (hexW (hI (bytF (padL s.data.toList)) ((padL s.data.toList).length / 64)) 8) w) := by
  have HE := Lib.hid hE
  clear hE
  obtain ⟨T, hT⟩ : ∃ T, T = s.data.toList := ⟨_, rfl⟩
  have hTl : s.size = T.length := by rw [hT]; exact Array.length_toList.symm
  have hTs : s = txt T := by rw [hT, data_txt]
  rw [← hT]
  obtain ⟨Z, hZ⟩ : ∃ Z, Z = padZ T.length := ⟨_, rfl⟩
  have hZ3 : Z ≤ 63 := by rw [hZ]; unfold padZ; omega
  obtain ⟨r, hr⟩ : ∃ r, r = T.length % 64 := ⟨_, rfl⟩
  have e1 : (T.length : Int) % 64 = (r : Int) := by omega
  have e2 : (119 - (r : Int)) % 64 = (Z : Int) := by rw [hZ]; unfold padZ; omega
  obtain ⟨L, hL⟩ : ∃ L, L = T ++ [128] ++ List.replicate Z 0 := ⟨_, rfl⟩
  have hLl : L.length = T.length + 1 + Z := by rw [hL]; simp; omega
  have hPL : padL T = L ++ be8 (T.length * 8) 8 := by unfold padL; rw [hL, ← hZ]
  have hLb : ∀ b : ByteArray, b = ⟨(Lib.repeatL [0] Z).toArray⟩ → txt T ++ (⟨#[128]⟩ ++ b) = txt L := by
    rintro b rfl
    rw [hL, repL0, List.append_assoc, ← txt_app, ← txt_app]
    rfl
  obtain ⟨P, hP⟩ : ∃ P, P = padL T := ⟨_, rfl⟩
  have hPZ : P.length = T.length + 9 + Z := by rw [hP, padL_length, ← hZ]
  rw [← hP] at hPL ⊢
  subst hTs
  have hTb : T.length ≤ 1048576 := by omega
  have hTz : (txt T).size = T.length := txt_size T
  have HPL := Lib.hid hPL
  have HLL := Lib.hid hLl
  have HLB := Lib.hid hLb
  have HZ := Lib.hid hZ
  have HPZ := Lib.hid hPZ
  have hPb : P.length ≤ 1048700 := by omega
  have hrp : (Lib.repeatL [0] Z).length = Z := by rw [repL0, List.length_replicate]
  obtain ⟨b0, hb0⟩ : ∃ b0 : ByteArray, b0 = ⟨(Lib.repeatL [0] Z).toArray⟩ := ⟨_, rfl⟩
  have hb0s : b0.size = Z := by rw [hb0]; exact hrp
  have HB0 := Lib.hid hb0
  have HRP := Lib.hid (fun wx => (show Calls Tryd.prog 10 #[.string ⟨#[0]⟩, .int .i64 (Z : Int)] wx fun e w' => e = .returned (.string b0) ∧ Below wx.heap.size wx w' from by
    have := Tryd.strings_Repeat ⟨#[0]⟩ Z wx (by omega) (by show 1 * Z ≤ _; omega)
    rw [hb0]
    exact this))
  clear hTl hT hPL hLl hLb hZ hPZ hr hrp hb0 hL hP hs
  have hsz1 : ((⟨#[128]⟩ : ByteArray)).size = 1 := rfl
  go_enter Tryd.func6, Tryd.ntmps6
  go_wp2_with (go_at_call 10; ((with_reducible refine (HRP.out _).mono ?_); rintro e w1 ⟨rfl, hb1⟩; have HB1 := Lib.hid hb1; clear hb1))
  go_loopw [0, 4] (fun tx v w' => ∃ j : Nat, j ≤ 8 ∧ tx = .string (txt (L ++ be8 (T.length * 8) j)) ∧ v = .int .i64 (56 - 8 * (j : Int)) ∧ Below w.heap.size w w') (fun _ v _ => (intOf v + 100).toNat)
  case atStart => exact ⟨0, by omega, by rw [HLB.out b0 HB0.out]; simp [be8], rfl, HB1.out⟩
  case round =>
    obtain ⟨j, hj, rfl, rfl, hb⟩ := hrel
    obtain ⟨wo, rfl⟩ : ∃ wo, wo = wr := ⟨_, rfl⟩
    clear HB1
    have HB := Lib.hid hb
    have hbs := hb.size
    clear hb
    by_cases hlt : j < 8
    · obtain ⟨q, hq⟩ : ∃ q : Nat, q = 7 - j := ⟨_, rfl⟩
      rw [show 56 - 8 * (j : Int) = 8 * (q : Int) from by omega]
      obtain ⟨b, hbb⟩ : ∃ b, b = UInt8.ofNat (T.length * 8 / 2 ^ (8 * q)) := ⟨_, rfl⟩
      have u1 : IntKind.u8.wrap ((T.length : Int) * 8 / 2 ^ (8 * q)) = (b.toNat : Int) := by
        rw [hbb, ← u8_wrap]
        simp
      have HBE : Hid (L ++ be8 (T.length * 8) (j + 1) = L ++ be8 (T.length * 8) j ++ [b]) := by
        show _ = _
        rw [be8_succ, hbb, show 7 - j = q from by omega, List.append_assoc]
      have hXs : (txt (L ++ be8 (T.length * 8) j)).size ≤ 1048700 := by
        have := HLL.out
        rw [txt_size, List.length_append, be8_length]; omega
      obtain ⟨X, hX⟩ : ∃ X, X = txt (L ++ be8 (T.length * 8) j) := ⟨_, rfl⟩
      rw [← hX] at hXs ⊢
      have HXX := Lib.hid hX
      have HQQ := Lib.hid hq
      have hk := fun (w' : World) (g : Nat) (hc : w'.cell? ⟨g, 0, none⟩ = some (.int .u8 (b.toNat : Int))) => conv_one (b := b) rfl hc
      have y1 : 0 ≤ 8 * (q : Int) ∧ 8 * (q : Int) ≤ 64 := ⟨by omega, by omega⟩
      have y0 : (0 : Int) ≤ (q : Int) := by omega
      have y2 : (0 : Int) ≤ 8 * (q : Int) := by omega
      have t1 : (8 * (q : Int)).toNat = 8 * q := by omega
      have zz : IntKind.i64.wrap (8 * (q : Int) - 8) = 8 * (q : Int) - 8 := IntWalk.i64_in _ (by omega)
      have z2 : (txt [b]).size = 1 := rfl
      clear hX hq hbb
      go_wp2_with fail
      go_roundw
      case rel => exact ⟨j + 1, by omega, by rw [HBE.out, ← txt_app, ← HXX.out], by have := HQQ.out; simp; omega, HB.out.alloc hbs _⟩
      case measure => have := HQQ.out; simp [intOf]; omega
    · have ej : j = 8 := by omega
      subst ej
      rw [← HPL.out]
      rw [show 56 - 8 * ((8 : Nat) : Int) = -8 from rfl]
      have HEo := Lib.hid (HE.out.below (HB.out.mono (Nat.le_refl _)))
      clear HPL HLB HB0 HRP HLL hlt
      obtain ⟨c0, c1, c2, c3, c4, c5, c6, c7⟩ : wo.cell? ⟨0, 0, none⟩ = some (.int .u32 1779033703) ∧ wo.cell? ⟨0, 1, none⟩ = some (.int .u32 3144134277) ∧ wo.cell? ⟨0, 2, none⟩ = some (.int .u32 1013904242) ∧ wo.cell? ⟨0, 3, none⟩ = some (.int .u32 2773480762) ∧ wo.cell? ⟨0, 4, none⟩ = some (.int .u32 1359893119) ∧ wo.cell? ⟨0, 5, none⟩ = some (.int .u32 2600822924) ∧ wo.cell? ⟨0, 6, none⟩ = some (.int .u32 528734635) ∧ wo.cell? ⟨0, 7, none⟩ = some (.int .u32 1541459225) :=
        ⟨HEo.out.r.c 0 (by omega), HEo.out.r.c 1 (by omega), HEo.out.r.c 2 (by omega), HEo.out.r.c 3 (by omega), HEo.out.r.c 4 (by omega), HEo.out.r.c 5 (by omega), HEo.out.r.c 6 (by omega), HEo.out.r.c 7 (by omega)⟩
      go_wp2_with fail
      have HO : Hid (OwnU (wo.alloc (.cells (rootL.map (Value.int .u32)).toArray 30)) wo.heap.size 8 (hI (bytF P) 0)) := own_roots wo _
      have HB0 : Hid (Below w.heap.size w (wo.alloc (.cells (rootL.map (Value.int .u32)).toArray 30))) := HB.out.alloc hbs _
      obtain ⟨g, hg⟩ : ∃ g, g = wo.heap.size := ⟨_, rfl⟩
      rw [← hg] at HO ⊢
      have hgw : w.heap.size ≤ g := by omega
      obtain ⟨n, hn⟩ : ∃ n, n = P.length / 64 := ⟨_, rfl⟩
      have hPn : P.length = 64 * n := by have h1 := HPZ.out; have h2 := HZ.out; unfold padZ at h2; omega
      rw [← hn]
      clear hn hg c0 c1 c2 c3 c4 c5 c6 c7 HB hbs HEo
      go_loopw [0] (fun tx w' => ∃ k : Nat, k ≤ n ∧ tx = .string (txt (P.drop (64 * k))) ∧ OwnU w' g 8 (hI (bytF P) k) ∧ Below w.heap.size w w') (fun tx _ => strLen tx)
      case atStart => exact ⟨0, by omega, rfl, HO.out, HB0.out⟩
      case round =>
        obtain ⟨k, hk, rfl, ho, hb⟩ := hrel
        obtain ⟨wp, rfl⟩ : ∃ wp, wp = wr := ⟨_, rfl⟩
        clear HO HB0
        have HO := Lib.hid ho
        have HB := Lib.hid hb
        have hbs := hb.size
        clear ho hb
        obtain ⟨H, hH⟩ : ∃ H, H = hI (bytF P) k := ⟨_, rfl⟩
        have HHB : Hid (∀ i, W32 (H i)) := by rw [hH]; exact hI_bd _ _
        have HNX : Hid (hI (bytF P) (k + 1) = blkI H (asmS (fun j => bytF P (64 * k + j)) 16 0)) := by rw [hH]; rfl
        rw [← hH] at HO
        have HHE := Lib.hid hH
        clear hH
        have c0 := HO.out.cell (i := 0) (by omega)
        have c1 := HO.out.cell (i := 1) (by omega)
        have c2 := HO.out.cell (i := 2) (by omega)
        have c3 := HO.out.cell (i := 3) (by omega)
        have c4 := HO.out.cell (i := 4) (by omega)
        have c5 := HO.out.cell (i := 5) (by omega)
        have c6 := HO.out.cell (i := 6) (by omega)
        have c7 := HO.out.cell (i := 7) (by omega)
        by_cases hlt : k < n
        · obtain ⟨G, hG⟩ : ∃ G, G = hI (bytF P) (k + 1) := ⟨_, rfl⟩
          have hXs : (txt (P.drop (64 * k))).size = P.length - 64 * k := by rw [txt_size, List.length_drop]
          have HBK : Hid (∀ wx, EnvH wx → Calls Tryd.prog 11 #[.agg #[.int .u32 (H 0), .int .u32 (H 1), .int .u32 (H 2), .int .u32 (H 3), .int .u32 (H 4), .int .u32 (H 5), .int .u32 (H 6), .int .u32 (H 7)], .string (txt (P.drop (64 * k)))] wx fun e w' => e = .returned (.agg #[.int .u32 (G 0), .int .u32 (G 1), .int .u32 (G 2), .int .u32 (G 3), .int .u32 (G 4), .int .u32 (G 5), .int .u32 (G 6), .int .u32 (G 7)]) ∧ Below wx.heap.size wx w') := by
            intro wx hx
            have := block_any H (txt (P.drop (64 * k))) wx HHB.out (by omega) hx.k
            rw [byteF_drop, ← HNX.out, ← hG] at this
            exact this
          have hne : (txt (P.drop (64 * k))).toList.isEmpty = false := by
            rw [Lib.toList_data, txt_data]
            cases hd : P.drop (64 * k) with
            | nil =>
              have h2 := congrArg List.length hd
              rw [List.length_drop] at h2
              simp at h2; omega
            | cons x l => rfl
          have HX1 : Hid ((txt (P.drop (64 * k))).extract 64 (txt (P.drop (64 * k))).size = txt (P.drop (64 * (k + 1)))) := by
            show _ = _
            rw [← data_txt ((txt (P.drop (64 * k))).extract 64 (txt (P.drop (64 * k))).size), Lib.extract_data, txt_data, List.drop_drop, List.take_of_length_le (by rw [hXs, List.length_drop]; omega)]
            rfl
          have hsl := fun wx => slice_fromU (txt (P.drop (64 * k))) 64 (by omega) wx
          obtain ⟨X, hX⟩ : ∃ X, X = txt (P.drop (64 * k)) := ⟨_, rfl⟩
          rw [← hX] at hXs HBK hne HX1 hsl ⊢
          rw [show ((64 : Nat) : Int) = 64 from rfl] at hsl
          have hX64 : 64 ≤ X.size := by omega
          have HGE := Lib.hid hG
          clear hG hX hXs
          go_wp2_with (go_at_call 11; ((with_reducible refine (HBK.out _ (HE.out.below HB.out)).mono ?_); rintro e w2 ⟨rfl, hb2⟩; have HB2 := Lib.hid (bT HB.out hb2 hbs); have HO2 := Lib.hid (HO.out.below hb2 (Nat.le_refl _)); have d0 := HO2.out.cell (i := 0) (by omega); have d1 := HO2.out.cell (i := 1) (by omega); have d2 := HO2.out.cell (i := 2) (by omega); have d3 := HO2.out.cell (i := 3) (by omega); have d4 := HO2.out.cell (i := 4) (by omega); have d5 := HO2.out.cell (i := 5) (by omega); have d6 := HO2.out.cell (i := 6) (by omega); have d7 := HO2.out.cell (i := 7) (by omega); have f0 := HO2.out.frozen 0; have f1 := HO2.out.frozen 1; have f2 := HO2.out.frozen 2; have f3 := HO2.out.frozen 3; have f4 := HO2.out.frozen 4; have f5 := HO2.out.frozen 5; have f6 := HO2.out.frozen 6; have f7 := HO2.out.frozen 7; clear hb2))
          go_roundw
          case rel => exact ⟨k + 1, by omega, by rw [HX1.out], by rw [← HGE.out]; exact own8 HO2.out, (((((((HB2.out.setCell hgw _).setCell hgw _).setCell hgw _).setCell hgw _).setCell hgw _).setCell hgw _).setCell hgw _).setCell hgw _⟩
          case measure => simp [strLen]; omega
        · have ek : k = n := by omega
          subst ek
          have hX0 : txt (P.drop (64 * k)) = ⟨#[]⟩ := by rw [List.drop_of_length_le (by omega)]; rfl
          rw [hX0]
          have hem : (⟨#[]⟩ : ByteArray).toList.isEmpty = true := by rw [Lib.toList_data]; rfl
          have hgl := HO.out.lt
          have hgn : ¬ g = wp.heap.size := by omega
          have HBU := Lib.hid (Lib.fresh_isBuilder 34 5 wp)
          have HB1 := Lib.hid (HB.out.alloc hbs (.cells #[.pointer none, .slice none 0 0] 34))
          have HEP := Lib.hid (HE.out.below HB.out)
          have HEQ := Lib.hid ((Below.refl wp.heap.size wp).alloc (Nat.le_refl _) (.cells #[.pointer none, .slice none 0 0] 34))
          have HBP := Lib.hid HB.out
          clear HB HE HO hX0 hlt
          go_wp2_with fail
          go_loopw [44] (fun v w' => ∃ i : Nat, v = .int .i64 (i : Int) ∧ i ≤ 8 ∧ Lib.IsBuilder 34 5 wp.heap.size wp.heap.size (Lib.byteCells (hexW H i)) w' ∧ Below wp.heap.size wp w') (fun v _ => 8 - (intOf v).toNat)
          case atStart => exact ⟨0, rfl, by omega, HBU.out, HEQ.out⟩
          case round =>
            obtain ⟨i, rfl, hi, hbu, hb⟩ := hrel
            obtain ⟨wq, rfl⟩ : ∃ wq, wq = wr := ⟨_, rfl⟩
            clear HBU HEQ c0 c1 c2 c3 c4 c5 c6 c7
            have HBU := Lib.hid hbu
            have HB := Lib.hid hb
            have hbs2 := hb.size
            clear hbu hb
            by_cases hlt : i < 8
            · have hix : ∀ wx, (Instr.index 30 (.agg #[.int .u32 (H 0), .int .u32 (H 1), .int .u32 (H 2), .int .u32 (H 3), .int .u32 (H 4), .int .u32 (H 5), .int .u32 (H 6), .int .u32 (H 7)]) (.int .i64 (i : Int))).run Tryd.prog wx = .ok (.int .u32 (H i)) wx := fun wx => index8 H i hlt wx
              have HNX := Lib.hid (hexW_succ H i)
              have hlen := hexW_length HHB.out i
              obtain ⟨u, hu⟩ : ∃ u : Nat, H i = (u : Int) := ⟨(H i).toNat, by have := (HHB.out i).1; omega⟩
              have hub : u < 4294967296 := by have := (HHB.out i).2; omega
              rw [hu] at hix HNX
              rw [Int.toNat_natCast] at HNX
              have hDl := hexL_len 7 u (by omega)
              have HF := Lib.hid (fun wx (h : Tz wx) => formatU_any u wx hub h)
              obtain ⟨D, hD⟩ : ∃ D, D = hexL u := ⟨_, rfl⟩
              rw [← hD] at hDl HF HNX
              obtain ⟨c, hc⟩ : ∃ c : Nat, c = 8 - D.length := ⟨_, rfl⟩
              have zc : 8 - (D.length : Int) = (c : Int) := by omega
              have zw : IntKind.i64.wrap (c : Int) = (c : Int) := IntWalk.i64_in _ (by omega)
              have hDs : (txt D).size = D.length := txt_size D
              have hpd : pad8 D = Lib.repeatL [48] c ++ D := by unfold pad8; rw [hc]
              have hrl : (Lib.repeatL [48] c).length = c := by rw [repL0, List.length_replicate]
              obtain ⟨R, hR⟩ : ∃ R, R = Lib.repeatL [48] c := ⟨_, rfl⟩
              have HRP := Lib.hid (fun wx => (show Calls Tryd.prog 10 #[.string ⟨#[48]⟩, .int .i64 (c : Int)] wx fun e w' => e = .returned (.string (txt R)) ∧ Below wx.heap.size wx w' from by
                have := Tryd.strings_Repeat ⟨#[48]⟩ c wx (by omega) (by show 1 * c ≤ _; omega)
                rw [hR]
                exact this))
              rw [← hR] at hpd hrl
              have HPD : Hid (Lib.byteCells (hexW H (i + 1)) = Lib.byteCells (hexW H i) ++ Lib.strCells (txt R ++ txt D)) := by
                show _ = _
                rw [HNX.out, hpd, txt_app, Lib.strCells_eq, ← Lib.byteCells_append, txt_data]
              have hRs : (txt R).size = c := by rw [txt_size]; exact hrl
              have hsum : ¬ 9223372036854775807 < (txt R).size + (txt D).size := by omega
              have hsum2 : ¬ 9223372036854775807 < c + D.length := by omega
              have hD8 : (D.length : Int) ≤ 8 := by omega
              have HWS := Lib.hid (fun w1 (h1 : Lib.IsBuilder 34 5 wp.heap.size wp.heap.size (Lib.byteCells (hexW H i)) w1) (h2 : wp.heap.size ≤ w1.heap.size) => Tryd.Builder_WriteString wp.heap.size wp.heap.size (Lib.byteCells (hexW H i)) (txt R ++ txt D) w1 h1 (by
                rw [Lib.byteCells_length, ByteArray.size_append, hRs, hDs]; omega) h2)
              rw [← HPD.out] at HWS
              clear hu hD hc hpd hrl hR hlen HNX HPD
              go_wp2_with fail
              refine (HF.out _ (HEP.out.below HB.out).t).mono ?_
              rintro e w1 ⟨rfl, b1⟩
              have HBU1 := Lib.hid (isBuilder_below HBU.out b1)
              have HB1 := Lib.hid (bT HB.out b1 hbs2)
              clear b1
              go_wp2_with fail
              refine (HRP.out _).mono ?_
              rintro e w2 ⟨rfl, b2⟩
              have HBU2 := Lib.hid (isBuilder_below HBU1.out b2)
              have HB2 := Lib.hid (bT HB1.out b2 HB1.out.size)
              clear b2
              go_wp2_with fail
              refine (HWS.out _ HBU2.out HB2.out.size).mono ?_
              rintro e w3 ⟨rfl, hbu3, b3⟩
              have HBU3 := Lib.hid hbu3
              have HB3 := Lib.hid (HB2.out.trans b3)
              clear hbu3 b3
              go_wp2_with fail
              go_roundw
              case rel => exact ⟨i + 1, by go_num, by omega, Or.inr HBU3.out, HB3.out⟩
              case measure => simp [intOf]; omega
            · have e8 : i = 8 := by omega
              subst e8
              have HS := Lib.hid (Tryd.Builder_String_any wp.heap.size wp.heap.size (hexW H 8) wq HBU.out hbs2)
              have HFIN : Hid (hexW H 8 = hexW (hI (bytF P) (P.length / 64)) 8) := by
                show _ = _
                rw [HHE.out, show P.length / 64 = k from by omega]
              go_wp2_with fail
              refine HS.out.mono ?_
              rintro e w1 ⟨rfl, b1⟩
              have HB4 := Lib.hid (HB.out.trans b1)
              clear b1
              go_wp2_with fail
              go_ret
              exact ⟨ret_txt (by rw [← HFIN.out]; rfl), HBP.out.trans (HB4.out.mono hbs)⟩
end My
end Go.Proofs.YtabpkabeabemmaaDoor
