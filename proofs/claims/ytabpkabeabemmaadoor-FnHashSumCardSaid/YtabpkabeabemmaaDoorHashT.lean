/- SHA-256: the reference's sum. -/
import Derived.Test.YtabpkabeabemmaaDoorHashS
namespace Go.Proofs.YtabpkabeabemmaaDoor
open Go.RowKit Go.Deep
set_option linter.unusedVariables false
namespace My

def rootL : List Int := [1779033703, 3144134277, 1013904242, 2773480762, 1359893119, 2600822924, 528734635, 1541459225]
def rootF (i : Nat) : Int := rootL.getD i 0
theorem rootF_bd (i : Nat) : W32 (rootF i) := by
  unfold rootF
  have h : rootL.all (fun z => decide (0 ≤ z ∧ z ≤ 4294967295)) = true := by decide
  rw [List.getD_eq_getElem?_getD]
  cases hx : rootL[i]? with
  | none => exact ⟨by simp, by simp⟩
  | some z =>
    have := List.all_eq_true.1 h z (List.mem_of_getElem? hx)
    simpa [W32] using this
def bytF (T : List UInt8) (j : Nat) : Int := ((T.getD j 0).toNat : Int)
theorem bytF_lo (T : List UInt8) (j : Nat) : 0 ≤ bytF T j := by unfold bytF; omega
theorem bytF_hi (T : List UInt8) (j : Nat) : bytF T j ≤ 255 := by
  unfold bytF
  generalize T.getD j 0 = c
  have : c.toNat < 256 := UInt8.toNat_lt c
  omega
def hN (B : Nat → Int) : Nat → Nat → Int
  | 0 => rootF
  | k + 1 => blkF (hN B k) (fun j => B (64 * k + j))
theorem hN_bd (B : Nat → Int) : ∀ k i, W32 (hN B k i)
  | 0, i => rootF_bd i
  | k + 1, i => by unfold hN blkF W32 add32; omega
def word4b (x : Int) : List UInt8 := [by8 (x / 16777216), by8 (x / 65536), by8 (x / 256), by8 x]
def sumL (F : Nat → Int) (n : Nat) : List UInt8 := (List.range n).flatMap fun i => word4b (F i)
theorem sumL_succ (F : Nat → Int) (n : Nat) : sumL F (n + 1) = sumL F n ++ word4b (F n) := by simp [sumL, List.range_succ]
theorem sumL_length (F : Nat → Int) : ∀ n, (sumL F n).length = 4 * n
  | 0 => rfl
  | n + 1 => by rw [sumL_succ, List.length_append, sumL_length F n]; simp [word4b]; omega
theorem padL_length (s : List UInt8) : (padL s).length = s.length + 9 + padZ s.length := by
  unfold padL
  simp [be8_length]
  omega
theorem padL_blocks (s : List UInt8) : (padL s).length % 64 = 0 := by
  rw [padL_length]; unfold padZ; omega
theorem own_roots (w : World) (t : TypeId) : OwnU (w.alloc (.cells (rootL.map (Value.int .u32)).toArray t)) w.heap.size 8 rootF := by
  refine ⟨_, _, blk_alloc_new _ _, fun i hi => ?_⟩
  have hl : rootL.length = 8 := rfl
  rw [List.getElem?_toArray, List.getElem?_map]
  unfold rootF
  rw [List.getD_eq_getElem?_getD, List.getElem?_eq_getElem (by omega)]
  rfl
def b11G (F : Nat → Int) (l : Value) (base g c i : Nat) (d : Nat) (v : Value) (w : World) : Prop :=
  match d with
  | 53 => ∃ h, v = .slice (some ⟨h, 0, none⟩) 4 4 ∧ base ≤ h ∧ w.heap[h]? = some (.cells #[.int .u8 (((by8 (F i / 16777216)).toNat : Int)), .int .u8 (((by8 (F i / 65536)).toNat : Int)), .int .u8 (((by8 (F i / 256)).toNat : Int)), .int .u8 (((by8 (F i)).toNat : Int))] 5 (0, 0))
  | 29 => v = l
  | 30 | 36 | 42 | 48 => v = .slice (some ⟨g, 0, none⟩) 8 c
  | 31 | 37 | 43 | 49 => v = .int .i64 (i : Int)
  | 32 | 38 | 44 | 50 => v = .pointer (some ⟨g, i, none⟩)
  | 33 | 39 | 45 | 51 => v = .int .u32 (F i)
  | 34 => v = .int .u32 ((F i) / 16777216)
  | 35 => v = .int .u8 (((by8 (F i / 16777216)).toNat : Int))
  | 40 => v = .int .u32 ((F i) / 65536)
  | 41 => v = .int .u8 (((by8 (F i / 65536)).toNat : Int))
  | 46 => v = .int .u32 ((F i) / 256)
  | 47 => v = .int .u8 (((by8 (F i / 256)).toNat : Int))
  | 52 => v = .int .u8 (((by8 (F i)).toNat : Int))
  | _ => True
theorem b11_stable (F : Nat → Int) (l : Value) (base g c i : Nat) {d : Nat} {v : Value} {w w' : World} (hb : Below w.heap.size w w') (h : b11G F l base g c i d v w) : b11G F l base g c i d v w' := by
  unfold b11G at h ⊢
  split at h
  · exact row_stable hb h
  all_goals exact h
set_option maxRecDepth 100000 in
set_option maxHeartbeats 8000000 in
theorem l1Sum_any (s : ByteArray) (w : World) (hs : s.size ≤ 1048576) :
    Calls Tryd.prog 9 #[.string s] w (StrPost (sumL (hN (bytF (padL s.data.toList)) ((padL s.data.toList).length / 64)) 8) w) := by
  obtain ⟨i0, hi0, hz0, hz1, hz2⟩ := info_parts infoU8
  have HO := Lib.hid (own_roots w 29)
  have HB := Lib.hid ((Below.refl w.heap.size w).alloc (Nat.le_refl _) (.cells (rootL.map (Value.int .u32)).toArray 29))
  obtain ⟨P, hP⟩ : ∃ P, P = padL s.data.toList := ⟨_, rfl⟩
  have hP64 : P.length % 64 = 0 := by rw [hP]; exact padL_blocks _
  have hPle : P.length ≤ 1048700 := by
    rw [hP, padL_length]
    have : s.data.toList.length = s.size := Array.length_toList
    unfold padZ; omega
  have HPD := Lib.hid (fun wx => l1Padded_any s wx hs)
  simp only [← hP] at HPD ⊢
  clear hP
  obtain ⟨n, hn⟩ : ∃ n, n = P.length / 64 := ⟨_, rfl⟩
  have hPn : P.length = 64 * n := by omega
  rw [← hn]
  clear hn hP64
  go_enter Tryd.func9, Tryd.ntmps9
  go_wp2_with fail
  refine (HPD.out _).mono ?_
  rintro e w1 ⟨gb, cb, rfl, hp⟩
  have HOB := Lib.hid hp.own
  have hcb := hp.own.cap_ge
  have HB1 := Lib.hid (HB.out.trans (hp.b.mono HB.out.size))
  have HH1 : Hid (InU w1 w.heap.size 8 (hN (bytF P) 0)) := by
    have := HO.out.below hp.b (Nat.le_refl _)
    exact ⟨fun i hi => this.cell hi, this.lt⟩
  have hBy : Hid (∀ k, 64 * k + 64 ≤ P.length → BytesAt w1 gb (64 * k) 64 (fun j => bytF P (64 * k + j))) := fun k hk =>
    ⟨fun j hj => hp.own.cell (by omega), fun j => bytF_lo _ _, fun j => bytF_hi _ _, hp.own.lt⟩
  clear hp HB HO
  go_wp2_with fail
  go_loopw [3, 5] (fun h v w' => ∃ (k g c : Nat), v = .int .i64 (64 * (k : Int)) ∧ k ≤ n ∧ h = .slice (some ⟨g, 0, none⟩) 8 c ∧ 8 ≤ c ∧ InU w' g 8 (hN (bytF P) k) ∧ Below w1.heap.size w1 w') (fun _ v _ => P.length - (intOf v).toNat)
  case atStart => exact ⟨0, w.heap.size, 8, rfl, by omega, rfl, by omega, HH1.out, Below.refl _ _⟩
  case round =>
    obtain ⟨k, g, c, rfl, hk, rfl, hc, hin, hb⟩ := hrel
    obtain ⟨wp, rfl⟩ : ∃ wp, wp = wr := ⟨_, rfl⟩
    clear HH1
    have HIN := Lib.hid hin
    have HBB := Lib.hid hb
    clear hin hb
    by_cases hlt : k < n
    · have z1 : IntKind.i64.wrap (64 * (k : Int) + 64) = 64 * (k : Int) + 64 := IntWalk.i64_in _ (by omega)
      have hlt1 : 64 * (k : Int) < P.length := by omega
      have hlt2 : 0 ≤ 64 * (k : Int) ∧ 64 * (k : Int) ≤ 64 * (k : Int) + 64 ∧ 64 * (k : Int) + 64 ≤ cb := by omega
      go_wp2_with fail
      refine (l1Block_any g c gb (64 * k) (cb - 64 * k) (hN (bytF P) k) (fun j => bytF P (64 * k + j)) wp HIN.out (hN_bd _ k) ((hBy.out k (by omega)).below HBB.out) (by omega) hc).mono ?_
      rintro e w2 ⟨g2, c2, rfl, hg2, ho, hc2, hb2⟩
      have HIN2 : Hid (InU w2 g2 8 (hN (bytF P) (k + 1))) := ⟨fun i hi => ho.cell hi, ho.lt⟩
      have HBB2 := Lib.hid (HBB.out.trans (hb2.mono HBB.out.size))
      clear HIN HBB ho hb2
      go_wp2_with fail
      go_roundw
      case rel => exact ⟨k + 1, g2, c2, by simp; omega, by omega, rfl, hc2, HIN2.out, HBB2.out⟩
      case measure => simp [intOf]; omega
    · have ek : k = n := by omega
      subst ek
      obtain ⟨F, hF⟩ : ∃ F, F = hN (bytF P) k := ⟨_, rfl⟩
      have HF : Hid (∀ i, W32 (F i)) := by rw [hF]; exact hN_bd _ _
      rw [← hF] at HIN
      have HFE := Lib.hid hF
      clear hF
      obtain ⟨wM, rfl⟩ : ∃ wM, wM = wp := ⟨_, rfl⟩
      have HBM := Lib.hid (HB1.out.trans (HBB.out.mono HB1.out.size))
      have HST : Hid (RowB wM (.slice (some ⟨wM.heap.size, 0, none⟩) 0 0) (sumL F 0) (wM.alloc (.cells #[] 5))) := by
        refine ⟨?_, (Below.refl _ _).alloc (Nat.le_refl _) _, wM.heap.size, 0, rfl⟩
        exact World.ownsRow_lit (base := wM.heap.size) (e := 5) (size := 1) wM #[] 0 (Nat.le_refl _) (by simp [maxLen]) rfl
      clear HBB hBy HOB HPD hlt
      have hnn : ¬ 64 * (k : Int) < 64 * (k : Int) := by omega
      go_wp2_with fail
      go_loopw [6, 7] (fun l v w' => ∃ (i N : Nat), v = .int .i64 i ∧ i ≤ 8 ∧ N = 4 * i ∧ (∃ go co, l = .slice (some ⟨go, 0, none⟩) N co) ∧ RowB wM l (sumL F i) w') (fun _ v _ => 8 - (intOf v).toNat)
      case atStart => exact ⟨0, 0, rfl, by omega, by omega, ⟨_, _, rfl⟩, HST.out⟩
      case round =>
        obtain ⟨i, N, rfl, hi, hN, ⟨go, co, rfl⟩, hr⟩ := hrel
        obtain ⟨wp, rfl⟩ : ∃ wp, wp = wr := ⟨_, rfl⟩
        clear HST
        have HR := Lib.hid hr
        have hbase := hr.b.size
        have HN := Lib.hid hN
        have hNb : N ≤ 32 := by omega
        clear hr hN
        by_cases hlt : i < 8
        · have HC_g : Hid (∀ wx, Below wp.heap.size wp wx → ∀ j, j < 8 → wx.cell? ⟨g, j, none⟩ = some (.int .u32 (F j))) := fun wx h j hj => (HIN.out.below (bT HR.out.b h hbase)).c j hj
          have HNX := Lib.hid (sumL_succ F i)
          go_wp2_with fail
          refine wp_region_tail 25 (by decide) (by kernel_rfl) [29, 30, 31, 32, 33, 34, 35, 36, 37, 38, 39, 40, 41, 42, 43, 44, 45, 46, 47, 48, 49, 50, 51, 52, 53]
            (b11G F (.slice (some ⟨go, 0, none⟩) N co) wM.heap.size g c i) (fun n w' => Below wp.heap.size wp w') (fun w w' => Below w.heap.size w w') (fun w => Below.refl _ _) (fun _ _ _ h k => h.trans (k.mono h.size)) ?stable
            [29, 30, 31, 32, 33, 34, 35, 36, 37, 38, 39, 40, 41, 42, 43, 44, 45, 46, 47, 48, 49, 50, 51, 52, 53, 54, 6] (by kernel_rfl) (by kernel_rfl) (by kernel_rfl) ((Below.refl _ _).drew) ?step ?fin
          case stable => exact fun d v w w' hS hG => b11_stable _ _ _ _ _ _ hS hG
          case step =>
            refine ⟨?_, ?_, ?_, ?_, ?_, ?_, ?_, ?_, ?_, ?_, ?_, ?_, ?_, ?_, ?_, ?_, ?_, ?_, ?_, ?_, ?_, ?_, ?_, ?_, ?_, trivial⟩
            all_goals intro n f wx hn hI hS haf
            all_goals have HI := Lib.hid hI
            all_goals clear hI hS
            · simp [frameOf, goFrame]; go_simp; exact ⟨HI.out, Below.refl _ _, rfl⟩
            · simp [frameOf, goFrame]; go_simp; exact ⟨HI.out, Below.refl _ _, rfl⟩
            · simp [frameOf, goFrame]; go_simp; exact ⟨HI.out, Below.refl _ _, rfl⟩
            · have h30 : f 30 = .slice (some ⟨g, 0, none⟩) 8 c := (by first | exact haf.1 | exact haf.2.1 | exact haf.2.2.1 | exact haf.2.2.2.1 | exact haf.2.2.2.2.1); have h31 : f 31 = .int .i64 (i : Int) := (by first | exact haf.1 | exact haf.2.1 | exact haf.2.2.1 | exact haf.2.2.2.1 | exact haf.2.2.2.2.1); have yy : 0 ≤ (i : Int) ∧ (i : Int) < 8 := ⟨by omega, by omega⟩; have tt : ((i : Int)).toNat = i := (by omega); simp [frameOf, goFrame, h30, h31]; go_simp; exact ⟨HI.out, Below.refl _ _, rfl⟩
            · have h32 : f 32 = .pointer (some ⟨g, i, none⟩) := (by first | exact haf.1 | exact haf.2.1 | exact haf.2.2.1 | exact haf.2.2.2.1 | exact haf.2.2.2.2.1); have cc := HC_g.out wx HI.out i (by omega); simp [frameOf, goFrame, h32]; go_simp; exact ⟨HI.out, Below.refl _ _, rfl⟩
            · have h33 : f 33 = .int .u32 (F i) := (by first | exact haf.1 | exact haf.2.1 | exact haf.2.2.1 | exact haf.2.2.2.1 | exact haf.2.2.2.2.1); simp [frameOf, goFrame, h33]; go_simp; exact ⟨HI.out, Below.refl _ _, rfl⟩
            · have h34 : f 34 = .int .u32 ((F i) / 16777216) := (by first | exact haf.1 | exact haf.2.1 | exact haf.2.2.1 | exact haf.2.2.2.1 | exact haf.2.2.2.2.1); have zz : IntKind.u8.wrap (F i / 16777216) = ((by8 (F i / 16777216)).toNat : Int) := u8_of (by have := (HF.out i).1; omega); simp [frameOf, goFrame, h34]; go_simp; exact ⟨HI.out, Below.refl _ _, rfl⟩
            · simp [frameOf, goFrame]; go_simp; exact ⟨HI.out, Below.refl _ _, rfl⟩
            · simp [frameOf, goFrame]; go_simp; exact ⟨HI.out, Below.refl _ _, rfl⟩
            · have h36 : f 36 = .slice (some ⟨g, 0, none⟩) 8 c := (by first | exact haf.1 | exact haf.2.1 | exact haf.2.2.1 | exact haf.2.2.2.1 | exact haf.2.2.2.2.1); have h37 : f 37 = .int .i64 (i : Int) := (by first | exact haf.1 | exact haf.2.1 | exact haf.2.2.1 | exact haf.2.2.2.1 | exact haf.2.2.2.2.1); have yy : 0 ≤ (i : Int) ∧ (i : Int) < 8 := ⟨by omega, by omega⟩; have tt : ((i : Int)).toNat = i := (by omega); simp [frameOf, goFrame, h36, h37]; go_simp; exact ⟨HI.out, Below.refl _ _, rfl⟩
            · have h38 : f 38 = .pointer (some ⟨g, i, none⟩) := (by first | exact haf.1 | exact haf.2.1 | exact haf.2.2.1 | exact haf.2.2.2.1 | exact haf.2.2.2.2.1); have cc := HC_g.out wx HI.out i (by omega); simp [frameOf, goFrame, h38]; go_simp; exact ⟨HI.out, Below.refl _ _, rfl⟩
            · have h39 : f 39 = .int .u32 (F i) := (by first | exact haf.1 | exact haf.2.1 | exact haf.2.2.1 | exact haf.2.2.2.1 | exact haf.2.2.2.2.1); simp [frameOf, goFrame, h39]; go_simp; exact ⟨HI.out, Below.refl _ _, rfl⟩
            · have h40 : f 40 = .int .u32 ((F i) / 65536) := (by first | exact haf.1 | exact haf.2.1 | exact haf.2.2.1 | exact haf.2.2.2.1 | exact haf.2.2.2.2.1); have zz : IntKind.u8.wrap (F i / 65536) = ((by8 (F i / 65536)).toNat : Int) := u8_of (by have := (HF.out i).1; omega); simp [frameOf, goFrame, h40]; go_simp; exact ⟨HI.out, Below.refl _ _, rfl⟩
            · simp [frameOf, goFrame]; go_simp; exact ⟨HI.out, Below.refl _ _, rfl⟩
            · simp [frameOf, goFrame]; go_simp; exact ⟨HI.out, Below.refl _ _, rfl⟩
            · have h42 : f 42 = .slice (some ⟨g, 0, none⟩) 8 c := (by first | exact haf.1 | exact haf.2.1 | exact haf.2.2.1 | exact haf.2.2.2.1 | exact haf.2.2.2.2.1); have h43 : f 43 = .int .i64 (i : Int) := (by first | exact haf.1 | exact haf.2.1 | exact haf.2.2.1 | exact haf.2.2.2.1 | exact haf.2.2.2.2.1); have yy : 0 ≤ (i : Int) ∧ (i : Int) < 8 := ⟨by omega, by omega⟩; have tt : ((i : Int)).toNat = i := (by omega); simp [frameOf, goFrame, h42, h43]; go_simp; exact ⟨HI.out, Below.refl _ _, rfl⟩
            · have h44 : f 44 = .pointer (some ⟨g, i, none⟩) := (by first | exact haf.1 | exact haf.2.1 | exact haf.2.2.1 | exact haf.2.2.2.1 | exact haf.2.2.2.2.1); have cc := HC_g.out wx HI.out i (by omega); simp [frameOf, goFrame, h44]; go_simp; exact ⟨HI.out, Below.refl _ _, rfl⟩
            · have h45 : f 45 = .int .u32 (F i) := (by first | exact haf.1 | exact haf.2.1 | exact haf.2.2.1 | exact haf.2.2.2.1 | exact haf.2.2.2.2.1); simp [frameOf, goFrame, h45]; go_simp; exact ⟨HI.out, Below.refl _ _, rfl⟩
            · have h46 : f 46 = .int .u32 ((F i) / 256) := (by first | exact haf.1 | exact haf.2.1 | exact haf.2.2.1 | exact haf.2.2.2.1 | exact haf.2.2.2.2.1); have zz : IntKind.u8.wrap (F i / 256) = ((by8 (F i / 256)).toNat : Int) := u8_of (by have := (HF.out i).1; omega); simp [frameOf, goFrame, h46]; go_simp; exact ⟨HI.out, Below.refl _ _, rfl⟩
            · simp [frameOf, goFrame]; go_simp; exact ⟨HI.out, Below.refl _ _, rfl⟩
            · simp [frameOf, goFrame]; go_simp; exact ⟨HI.out, Below.refl _ _, rfl⟩
            · have h48 : f 48 = .slice (some ⟨g, 0, none⟩) 8 c := (by first | exact haf.1 | exact haf.2.1 | exact haf.2.2.1 | exact haf.2.2.2.1 | exact haf.2.2.2.2.1); have h49 : f 49 = .int .i64 (i : Int) := (by first | exact haf.1 | exact haf.2.1 | exact haf.2.2.1 | exact haf.2.2.2.1 | exact haf.2.2.2.2.1); have yy : 0 ≤ (i : Int) ∧ (i : Int) < 8 := ⟨by omega, by omega⟩; have tt : ((i : Int)).toNat = i := (by omega); simp [frameOf, goFrame, h48, h49]; go_simp; exact ⟨HI.out, Below.refl _ _, rfl⟩
            · have h50 : f 50 = .pointer (some ⟨g, i, none⟩) := (by first | exact haf.1 | exact haf.2.1 | exact haf.2.2.1 | exact haf.2.2.2.1 | exact haf.2.2.2.2.1); have cc := HC_g.out wx HI.out i (by omega); simp [frameOf, goFrame, h50]; go_simp; exact ⟨HI.out, Below.refl _ _, rfl⟩
            · have h51 : f 51 = .int .u32 (F i) := (by first | exact haf.1 | exact haf.2.1 | exact haf.2.2.1 | exact haf.2.2.2.1 | exact haf.2.2.2.2.1); have zz : IntKind.u8.wrap (F i) = ((by8 (F i)).toNat : Int) := u8_of (by have := (HF.out i).1; omega); simp [frameOf, goFrame, h51]; go_simp; exact ⟨HI.out, Below.refl _ _, rfl⟩
            · have h35 : f 35 = .int .u8 (((by8 (F i / 16777216)).toNat : Int)) := (by first | exact haf.1 | exact haf.2.1 | exact haf.2.2.1 | exact haf.2.2.2.1 | exact haf.2.2.2.2.1); have h41 : f 41 = .int .u8 (((by8 (F i / 65536)).toNat : Int)) := (by first | exact haf.1 | exact haf.2.1 | exact haf.2.2.1 | exact haf.2.2.2.1 | exact haf.2.2.2.2.1); have h47 : f 47 = .int .u8 (((by8 (F i / 256)).toNat : Int)) := (by first | exact haf.1 | exact haf.2.1 | exact haf.2.2.1 | exact haf.2.2.2.1 | exact haf.2.2.2.2.1); have h52 : f 52 = .int .u8 (((by8 (F i)).toNat : Int)) := (by first | exact haf.1 | exact haf.2.1 | exact haf.2.2.1 | exact haf.2.2.2.1 | exact haf.2.2.2.2.1); simp [frameOf, goFrame, h35, h41, h47, h52]; go_simp; exact ⟨HI.out.alloc HI.out.size _, (Below.refl _ _).alloc (Nat.le_refl _) _, wx.heap.size, rfl, Nat.le_trans hbase HI.out.size, blk_alloc_new _ _⟩
          case fin =>
            intro n f wx hn hI hS hG
            have h29 : f 29 = (.slice (some ⟨go, 0, none⟩) N co) := hG 0 _ 29 (by decide) rfl rfl
            have h53 : ∃ h, f 53 = .slice (some ⟨h, 0, none⟩) 4 4 ∧ wM.heap.size ≤ h ∧ wx.heap[h]? = some (.cells #[.int .u8 (((by8 (F i / 16777216)).toNat : Int)), .int .u8 (((by8 (F i / 65536)).toNat : Int)), .int .u8 (((by8 (F i / 256)).toNat : Int)), .int .u8 (((by8 (F i)).toNat : Int))] 5 (0, 0)) := hG 24 _ 53 (by decide) rfl rfl
            obtain ⟨h, h53, hh, hcell⟩ := h53
            have hs1 := hI.size
            have HR1 := Lib.hid (HR.out.below hI)
            have hz := HR1.out.b.size
            clear hG hS hn
            have hlN : (sumL F i).length = N := by have := HN.out; rw [sumL_length]; omega
            have hRo := HR1.out.own
            rw [hlN] at hRo
            change Oper.wp Tryd.prog _ _ _ (fun a' w' => TailOk Tryd.prog _ _ a' w') _
            refine wp_append_lies wx (.tmp 29) (.tmp 53) 24 rfl wM.heap.size 5 i0 (.int .u8 0) 1 1 Tryd.underlying24 hi0 hz0 hz1 hz2 rfl (by decide) (.slice (some ⟨go, 0, none⟩) N co) N (Lib.byteCells (sumL F i)) ?hs hRo ⟨h, 0, none⟩ 4 4 (Lib.byteCells (word4b (F i))) ?hx rfl (World.news_of_block hcell) (by simp [Value.oneCell', Lib.byteCells, word4b]) (by decide) (by unfold maxLen; omega) (by omega) hz wx.heap.size rfl ?_
            case hs => simp [frameOf, goFrame, Act.eval, h29]
            case hx => simp [frameOf, goFrame, Act.eval, h53]
            intro g' c' w4 hown hgrow hat hlt4
            have HW4 := Lib.hid (HR1.out.push (cs := word4b (F i)) rfl (by rw [hlN]; rfl) hown hgrow)
            clear hown hgrow hat hRo
            simp [frameOf, goFrame, TailOk]
            go_simp
            try simp only [TailOk, List.drop]
            go_wp2_with fail
            go_roundw
            case rel => exact ⟨i + 1, N + 4, by go_num, by omega, by have := HN.out; omega, ⟨_, _, rfl⟩, by rw [HNX.out]; exact HW4.out⟩
            case measure => simp [intOf]; omega
        · have e8 : i = 8 := by omega
          subst e8
          have hlN : N = (sumL F 8).length := by rw [sumL_length]; exact HN.out
          have hcv := (show RowB wM (.slice (some ⟨go, 0, none⟩) (sumL F 8).length co) (sumL F 8) wp by rw [← hlN]; exact HR.out).text hlN
          clear hlN
          go_wp2_with fail
          go_ret
          exact ⟨by rw [← HFE.out]; rfl, HBM.out.trans (HR.out.b.mono HBM.out.size)⟩

set_option maxRecDepth 100000 in
theorem specSum_any (s : ByteArray) (w : World) (hs : s.size ≤ 1048576) :
    Calls Tryd.prog 5 #[.string s] w (StrPost (hexAll (sumL (hN (bytF (padL s.data.toList)) ((padL s.data.toList).length / 64)) 8)) w) := by
  have H1 := Lib.hid (l1Sum_any s w hs)
  have hz := sumL_length (hN (bytF (padL s.data.toList)) ((padL s.data.toList).length / 64)) 8
  obtain ⟨L, hL⟩ : ∃ L, L = sumL (hN (bytF (padL s.data.toList)) ((padL s.data.toList).length / 64)) 8 := ⟨_, rfl⟩
  rw [← hL] at H1 hz ⊢
  have H2 := Lib.hid (fun wx => l1Hex_any (txt L) wx (by rw [txt_size]; omega))
  simp only [txt_data] at H2
  clear hL hz
  go_enter Tryd.func5, Tryd.ntmps5
  go_wp2_with fail
  refine H1.out.mono ?_
  rintro e w1 ⟨rfl, hb⟩
  have HB := Lib.hid hb
  clear hb
  go_wp2_with fail
  refine (H2.out _).mono ?_
  rintro e w2 ⟨rfl, hb⟩
  have HB2 := Lib.hid (HB.out.trans (hb.mono HB.out.size))
  clear hb
  go_wp2_with fail
  go_ret
  exact ⟨rfl, HB2.out⟩
end My
end Go.Proofs.YtabpkabeabemmaaDoor
