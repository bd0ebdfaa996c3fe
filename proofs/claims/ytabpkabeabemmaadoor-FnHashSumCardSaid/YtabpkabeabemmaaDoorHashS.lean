/- SHA-256: the reference's sum in figures. -/
import Derived.Test.YtabpkabeabemmaaDoorHashF
import Derived.Test.YtabpkabeabemmaaDoorHashK
namespace Go.Proofs.YtabpkabeabemmaaDoor
open Go.RowKit Go.Deep
set_option linter.unusedVariables false
namespace My

theorem tdiv16 (n : Nat) : (n : Int).tdiv 16 = ((n / 16 : Nat) : Int) := by rw [Int.tdiv_eq_ediv_of_nonneg (by omega)]; omega
theorem tmod16 (n : Nat) : (n : Int).tmod 16 = ((n % 16 : Nat) : Int) := by rw [Int.tmod_eq_emod_of_nonneg (by omega)]; omega
theorem dig16 (n : Nat) (h16 : n < 16) (h : n < (⟨#[48, 49, 50, 51, 52, 53, 54, 55, 56, 57, 97, 98, 99, 100, 101, 102]⟩ : ByteArray).size) :
    (⟨#[48, 49, 50, 51, 52, 53, 54, 55, 56, 57, 97, 98, 99, 100, 101, 102]⟩ : ByteArray)[n]'h = hexD n := by
  have hn : n = 0 ∨ n = 1 ∨ n = 2 ∨ n = 3 ∨ n = 4 ∨ n = 5 ∨ n = 6 ∨ n = 7 ∨ n = 8 ∨ n = 9 ∨ n = 10 ∨ n = 11 ∨ n = 12 ∨ n = 13 ∨ n = 14 ∨ n = 15 := by omega
  rcases hn with rfl | rfl | rfl | rfl | rfl | rfl | rfl | rfl | rfl | rfl | rfl | rfl | rfl | rfl | rfl | rfl <;> rfl
def hex2 (c : UInt8) : List UInt8 := [hexD (c.toNat / 16), hexD (c.toNat % 16)]
def by8 (x : Int) : UInt8 := UInt8.ofNat x.toNat
theorem u8_of {x : Int} (h : 0 ≤ x) : IntKind.u8.wrap x = ((by8 x).toNat : Int) := by
  obtain ⟨n, rfl⟩ : ∃ n : Nat, x = n := ⟨x.toNat, by omega⟩
  have := u8_wrap n 0
  simpa [by8] using this
def x5G (l : Value) (s : ByteArray) (base i q r : Nat) (c : UInt8) (d : Nat) (v : Value) (w : World) : Prop :=
  match d with
  | 23 => ∃ h, v = .slice (some ⟨h, 0, none⟩) 2 2 ∧ base ≤ h ∧ w.heap[h]? = some (.cells #[.int .u8 (((hexD q).toNat : Int)), .int .u8 (((hexD r).toNat : Int))] 5 (0, 0))
  | 12 => v = l
  | 13 | 18 => v = .string s
  | 14 | 19 => v = .int .i64 (i : Int)
  | 15 | 20 => v = .int .u8 (c.toNat : Int)
  | 16 => v = .int .u8 (q : Int)
  | 17 => v = .int .u8 (((hexD q).toNat : Int))
  | 21 => v = .int .u8 (r : Int)
  | 22 => v = .int .u8 (((hexD r).toNat : Int))
  | _ => True
theorem x5_stable (l : Value) (s : ByteArray) (base i q r : Nat) (c : UInt8) {d : Nat} {v : Value} {w w' : World} (hb : Below w.heap.size w w') (h : x5G l s base i q r c d v w) : x5G l s base i q r c d v w' := by
  unfold x5G at h ⊢
  split at h
  · exact row_stable hb h
  all_goals exact h
theorem owns_below8 {w w' : World} {base e n : Nat} {l : Value} {xs : List Value} (h : w.ownsRow base e 1 l n xs) (hb : Below w.heap.size w w') : w'.ownsRow base e 1 l n xs :=
  owns_belowU h hb
/-- A row of bytes that the call owns. -/
structure RowB (W : World) (l : Value) (bs : List UInt8) (w' : World) : Prop where
  own : w'.ownsRow W.heap.size 5 1 l bs.length (Lib.byteCells bs)
  b : Below W.heap.size W w'
  sl : ∃ g c, l = .slice (some ⟨g, 0, none⟩) bs.length c
theorem RowB.below {W w w' : World} {l : Value} {bs : List UInt8} (h : RowB W l bs w) (hb : Below w.heap.size w w') : RowB W l bs w' :=
  ⟨owns_below8 h.own hb, h.b.trans (hb.mono h.b.size), h.sl⟩
theorem RowB.push {W w w' : World} {l : Value} {bs cs : List UInt8} {g c : Nat} (h : RowB W l bs w) {xs : List Value} (hx : xs = Lib.byteCells bs ++ Lib.byteCells cs) {n : Nat} (hn : n = bs.length + cs.length)
    (hown : w'.ownsRow W.heap.size 5 1 (.slice (some ⟨g, 0, none⟩) n c) n xs) (hgrow : w.grownBy w' l.ownBlock) : RowB W (.slice (some ⟨g, 0, none⟩) n c) (bs ++ cs) w' := by
  subst hx
  have e : n = (bs ++ cs).length := by rw [hn, List.length_append]
  refine ⟨?_, h.b.grown hgrow h.b.size (fun q hq => (h.own.lt q hq).1), g, c, by rw [e]⟩
  rw [← e, Lib.byteCells_append]
  exact hown
theorem RowB.text {W w : World} {g c : Nat} {bs : List UInt8} (h : RowB W (.slice (some ⟨g, 0, none⟩) bs.length c) bs w) {n : Nat} (hn : n = bs.length) :
    (convert 24 9 (.slice (some ⟨g, 0, none⟩) n c)).run Tryd.prog w = .ok (.string (txt bs)) w := by
  subst hn
  refine run_convert_bytes_back (P := Tryd.prog) w 24 9 5 ⟨g, 0, none⟩ c bs Tryd.underlying24 Tryd.underlying5 Tryd.underlying9 ?_
  intro j hj
  have h2 : (⟨g, 0, none⟩ : Addr).add j = ⟨g, j, none⟩ := by unfold Addr.add; split <;> simp_all
  rw [h2]
  obtain ⟨_, h | ⟨g', cap', cur, hv, hb, hh, hn, hc, hs, ht⟩⟩ := h.own
  · cases h.1
  · simp only [Value.slice.injEq, Option.some.injEq, Addr.mk.injEq, true_and, and_true] at hv
    obtain ⟨rfl, rfl⟩ := hv
    have h1 : (cur.toList.take (bs.length * 1))[j]? = (Lib.byteCells bs)[j]? := by rw [ht]
    rw [List.getElem?_take_of_lt (by omega)] at h1
    have h3 : (Lib.byteCells bs)[j]? = some (.int .u8 ((bs[j]).toNat : Int)) := by
      unfold Lib.byteCells
      rw [List.getElem?_map, List.getElem?_eq_getElem hj]
      rfl
    rw [h3] at h1
    simp only [World.cell?, hh]
    simpa using h1

def hexAll (l : List UInt8) : List UInt8 := l.flatMap hex2
theorem hexAll_length (l : List UInt8) : (hexAll l).length = 2 * l.length := by
  induction l with
  | nil => rfl
  | cons a l ih => simp only [hexAll, List.flatMap_cons, List.length_append, List.length_cons] at *; rw [ih]; simp [hex2]; omega
set_option maxRecDepth 100000 in
set_option maxHeartbeats 8000000 in
theorem l1Hex_any (s : ByteArray) (w : World) (hs : s.size ≤ 1000) :
    Calls Tryd.prog 8 #[.string s] w (StrPost (hexAll s.data.toList) w) := by
  obtain ⟨i0, hi0, hz0, hz1, hz2⟩ := info_parts infoU8
  obtain ⟨T, hT⟩ : ∃ T, T = s.data.toList := ⟨_, rfl⟩
  have hTl : s.size = T.length := by rw [hT]; exact Array.length_toList.symm
  have hby : ∀ i (hi : i < s.size), s[i]'hi = T.getD i 0 := by
    intro i hi
    rw [hT, List.getD_eq_getElem?_getD, List.getElem?_eq_getElem (by rw [Array.length_toList]; exact hi)]
    rfl
  have HST : Hid (RowB w (.slice (some ⟨w.heap.size, 0, none⟩) 0 0) (hexAll (T.take 0)) (w.alloc (.cells #[] 5))) := by
    refine ⟨?_, (Below.refl _ _).alloc (Nat.le_refl _) _, w.heap.size, 0, rfl⟩
    exact World.ownsRow_lit (base := w.heap.size) (e := 5) (size := 1) w #[] 0 (Nat.le_refl _) (by simp [maxLen]) rfl
  rw [← hT]
  have HBY := Lib.hid hby
  clear hby hT
  go_enter Tryd.func8, Tryd.ntmps8
  go_wp2_with fail
  go_loopw [3, 4] (fun l v w' => ∃ (i N : Nat), v = .int .i64 i ∧ i ≤ T.length ∧ N = 2 * i ∧ (∃ go co, l = .slice (some ⟨go, 0, none⟩) N co) ∧ RowB w l (hexAll (T.take i)) w') (fun _ v _ => s.size - (intOf v).toNat)
  case atStart => exact ⟨0, 0, rfl, by omega, by omega, ⟨_, _, rfl⟩, HST.out⟩
  case round =>
    obtain ⟨i, N, rfl, hi, hN, ⟨go, co, rfl⟩, hr⟩ := hrel
    obtain ⟨wp, rfl⟩ : ∃ wp, wp = wr := ⟨_, rfl⟩
    clear HST
    have HR := Lib.hid hr
    have hbase := hr.b.size
    have HN := Lib.hid hN
    have hNb : N ≤ 2000 := by omega
    clear hr hN
    by_cases hlt : i < T.length
    · obtain ⟨c, hc⟩ : ∃ c, c = T.getD i 0 := ⟨_, rfl⟩
      have hbyte := fun hi => HBY.out i hi
      rw [← hc] at hbyte
      have hcb : c.toNat < 256 := UInt8.toNat_lt c
      have HNX : Hid (hexAll (T.take (i + 1)) = hexAll (T.take i) ++ hex2 c) := by
        show _ = _
        unfold hexAll
        rw [List.take_succ_eq_append_getElem hlt, List.flatMap_append, hc, List.getD_eq_getElem?_getD, List.getElem?_eq_getElem hlt]
        simp only [List.flatMap_cons, List.flatMap_nil, List.append_nil]
        rfl
      have hil : (i : Int) < s.size := by omega
      obtain ⟨q, hq⟩ : ∃ q, q = c.toNat / 16 := ⟨_, rfl⟩
      obtain ⟨r, hr⟩ : ∃ r, r = c.toNat % 16 := ⟨_, rfl⟩
      have HX2 : Hid (hex2 c = [hexD q, hexD r]) := by rw [hq, hr]; rfl
      have hq16 : q < 16 := by omega
      have hr16 : r < 16 := by omega
      have HQ := Lib.hid hq
      have HRM := Lib.hid hr
      clear hc hq hr
      go_wp2_with fail
      refine wp_region_tail 12 (by decide) (by kernel_rfl) [12, 13, 14, 15, 16, 17, 18, 19, 20, 21, 22, 23]
        (x5G (.slice (some ⟨go, 0, none⟩) N co) s w.heap.size i q r c) (fun n w' => Below wp.heap.size wp w') (fun w w' => Below w.heap.size w w') (fun w => Below.refl _ _) (fun _ _ _ h k => h.trans (k.mono h.size)) ?stable
        [12, 13, 14, 15, 16, 17, 18, 19, 20, 21, 22, 23, 24, 3] (by kernel_rfl) (by kernel_rfl) (by kernel_rfl) ((Below.refl _ _).drew) ?step ?fin
      case stable => exact fun d v w w' hS hG => x5_stable _ _ _ _ _ _ _ hS hG
      case step =>
        refine ⟨?_, ?_, ?_, ?_, ?_, ?_, ?_, ?_, ?_, ?_, ?_, ?_, trivial⟩
        all_goals intro n f wx hn hI hS haf
        all_goals have HI := Lib.hid hI
        all_goals clear hI hS
        · simp [frameOf, goFrame]; go_simp; exact ⟨HI.out, Below.refl _ _, rfl⟩
        · simp [frameOf, goFrame]; go_simp; exact ⟨HI.out, Below.refl _ _, rfl⟩
        · simp [frameOf, goFrame]; go_simp; exact ⟨HI.out, Below.refl _ _, rfl⟩
        · have h13 : f 13 = .string s := (by first | exact haf.1 | exact haf.2.1 | exact haf.2.2.1 | exact haf.2.2.2.1 | exact haf.2.2.2.2.1); have h14 : f 14 = .int .i64 (i : Int) := (by first | exact haf.1 | exact haf.2.1 | exact haf.2.2.1 | exact haf.2.2.2.1 | exact haf.2.2.2.2.1); have yy : 0 ≤ (i : Int) ∧ (i : Int) < s.size := ⟨by omega, by omega⟩; have tt : ((i : Int)).toNat = i := (by omega); have bb := hbyte; simp [frameOf, goFrame, h13, h14]; go_simp; exact ⟨HI.out, Below.refl _ _, rfl⟩
        · have h15 : f 15 = .int .u8 (c.toNat : Int) := (by first | exact haf.1 | exact haf.2.1 | exact haf.2.2.1 | exact haf.2.2.2.1 | exact haf.2.2.2.2.1); have zz : (c.toNat : Int).tdiv 16 = (q : Int) := (by rw [tdiv16, HQ.out]); have zw : IntKind.u8.wrap (q : Int) = (q : Int) := IntWalk.u8_in _ (by omega); simp [frameOf, goFrame, h15]; go_simp; exact ⟨HI.out, Below.refl _ _, rfl⟩
        · have h16 : f 16 = .int .u8 (q : Int) := (by first | exact haf.1 | exact haf.2.1 | exact haf.2.2.1 | exact haf.2.2.2.1 | exact haf.2.2.2.2.1); have yy : 0 ≤ (q : Int) ∧ (q : Int) < 16 := ⟨by omega, by omega⟩; have tt : ((q : Int)).toNat = q := (by omega); have bb := dig16 q (by omega); simp [frameOf, goFrame, h16]; go_simp; exact ⟨HI.out, Below.refl _ _, rfl⟩
        · simp [frameOf, goFrame]; go_simp; exact ⟨HI.out, Below.refl _ _, rfl⟩
        · simp [frameOf, goFrame]; go_simp; exact ⟨HI.out, Below.refl _ _, rfl⟩
        · have h18 : f 18 = .string s := (by first | exact haf.1 | exact haf.2.1 | exact haf.2.2.1 | exact haf.2.2.2.1 | exact haf.2.2.2.2.1); have h19 : f 19 = .int .i64 (i : Int) := (by first | exact haf.1 | exact haf.2.1 | exact haf.2.2.1 | exact haf.2.2.2.1 | exact haf.2.2.2.2.1); have yy : 0 ≤ (i : Int) ∧ (i : Int) < s.size := ⟨by omega, by omega⟩; have tt : ((i : Int)).toNat = i := (by omega); have bb := hbyte; simp [frameOf, goFrame, h18, h19]; go_simp; exact ⟨HI.out, Below.refl _ _, rfl⟩
        · have h20 : f 20 = .int .u8 (c.toNat : Int) := (by first | exact haf.1 | exact haf.2.1 | exact haf.2.2.1 | exact haf.2.2.2.1 | exact haf.2.2.2.2.1); have zz : (c.toNat : Int).tmod 16 = (r : Int) := (by rw [tmod16, HRM.out]); have zw : IntKind.u8.wrap (r : Int) = (r : Int) := IntWalk.u8_in _ (by omega); simp [frameOf, goFrame, h20]; go_simp; exact ⟨HI.out, Below.refl _ _, rfl⟩
        · have h21 : f 21 = .int .u8 (r : Int) := (by first | exact haf.1 | exact haf.2.1 | exact haf.2.2.1 | exact haf.2.2.2.1 | exact haf.2.2.2.2.1); have yy : 0 ≤ (r : Int) ∧ (r : Int) < 16 := ⟨by omega, by omega⟩; have tt : ((r : Int)).toNat = r := (by omega); have bb := dig16 r (by omega); simp [frameOf, goFrame, h21]; go_simp; exact ⟨HI.out, Below.refl _ _, rfl⟩
        · have h17 : f 17 = .int .u8 (((hexD q).toNat : Int)) := (by first | exact haf.1 | exact haf.2.1 | exact haf.2.2.1 | exact haf.2.2.2.1 | exact haf.2.2.2.2.1); have h22 : f 22 = .int .u8 (((hexD r).toNat : Int)) := (by first | exact haf.1 | exact haf.2.1 | exact haf.2.2.1 | exact haf.2.2.2.1 | exact haf.2.2.2.2.1); simp [frameOf, goFrame, h17, h22]; go_simp; exact ⟨HI.out.alloc HI.out.size _, (Below.refl _ _).alloc (Nat.le_refl _) _, wx.heap.size, rfl, Nat.le_trans hbase HI.out.size, blk_alloc_new _ _⟩
      case fin =>
        intro n f wx hn hI hS hG
        have h12 : f 12 = (.slice (some ⟨go, 0, none⟩) N co) := hG 0 _ 12 (by decide) rfl rfl
        have h23 : ∃ h, f 23 = .slice (some ⟨h, 0, none⟩) 2 2 ∧ w.heap.size ≤ h ∧ wx.heap[h]? = some (.cells #[.int .u8 (((hexD q).toNat : Int)), .int .u8 (((hexD r).toNat : Int))] 5 (0, 0)) := hG 11 _ 23 (by decide) rfl rfl
        obtain ⟨h, h23, hh, hcell⟩ := h23
        have hs1 := hI.size
        have HR1 := Lib.hid (HR.out.below hI)
        have hz := HR1.out.b.size
        clear hG hS hn
        have hlN : (hexAll (T.take i)).length = N := by have := HN.out; rw [hexAll_length, List.length_take]; omega
        have hRo := HR1.out.own
        rw [hlN] at hRo
        change Oper.wp Tryd.prog _ _ _ (fun a' w' => TailOk Tryd.prog _ _ a' w') _
        refine wp_append_lies wx (.tmp 12) (.tmp 23) 24 rfl w.heap.size 5 i0 (.int .u8 0) 1 1 Tryd.underlying24 hi0 hz0 hz1 hz2 rfl (by decide) (.slice (some ⟨go, 0, none⟩) N co) N (Lib.byteCells (hexAll (T.take i))) ?hs hRo ⟨h, 0, none⟩ 2 2 [.int .u8 ((hexD q).toNat : Int), .int .u8 ((hexD r).toNat : Int)] ?hx rfl (World.news_of_block hcell) (by simp [Value.oneCell']) (by decide) (by unfold maxLen; omega) (by omega) hz wx.heap.size rfl ?_
        case hs => simp [frameOf, goFrame, Act.eval, h12]
        case hx => simp [frameOf, goFrame, Act.eval, h23]
        intro g' c' w4 hown hgrow hat hlt4
        have HW4 := Lib.hid (HR1.out.push (cs := hex2 c) (by rw [HX2.out]; rfl) (by rw [hlN]; rfl) hown hgrow)
        clear hown hgrow hat hRo
        simp [frameOf, goFrame, TailOk]
        go_simp
        try simp only [TailOk, List.drop]
        go_wp2_with fail
        go_roundw
        case rel => exact ⟨i + 1, N + 2, by go_num, by omega, by have := HN.out; omega, ⟨_, _, rfl⟩, by rw [HNX.out]; exact HW4.out⟩
        case measure => simp [intOf]; omega
    · have e8 : i = T.length := by omega
      subst e8
      have hlN : N = (hexAll T).length := by rw [hexAll_length]; exact HN.out
      have HRx : Hid (RowB w (.slice (some ⟨go, 0, none⟩) N co) (hexAll T) wp) := by
        have := HR.out
        rw [List.take_length] at this
        exact this
      have hcv := (show RowB w (.slice (some ⟨go, 0, none⟩) (hexAll T).length co) (hexAll T) wp by rw [← hlN]; exact HRx.out).text hlN
      clear hlN
      go_wp2_with fail
      go_ret
      exact ⟨rfl, HRx.out.b⟩
end My
end Go.Proofs.YtabpkabeabemmaaDoor
