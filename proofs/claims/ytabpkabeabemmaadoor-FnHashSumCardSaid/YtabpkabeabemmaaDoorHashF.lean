/- strconv.FormatUint in base 16. -/
import Derived.Test.YtabpkabeabemmaaDoorHashP
namespace Go.Proofs.YtabpkabeabemmaaDoor
open Go.RowKit Go.Deep
set_option linter.unusedVariables false
namespace My

/-- A text of bytes. -/
def txt (l : List UInt8) : ByteArray := ⟨l.toArray⟩
theorem txt_app (a b : List UInt8) : txt a ++ txt b = txt (a ++ b) := by
  apply ByteArray.ext
  simp [txt]
theorem txt_data (a : List UInt8) : (txt a).data.toList = a := by simp [txt]
theorem txt_size (a : List UInt8) : (txt a).size = a.length := rfl
theorem data_txt (s : ByteArray) : txt s.data.toList = s := by
  apply ByteArray.ext
  simp [txt]
theorem ret_txt {a b : ByteArray} (h : a = b) : Ending.returned (.string a) = .returned (.string b) := by rw [h]

def digitsB : ByteArray := ⟨#[48, 49, 50, 51, 52, 53, 54, 55, 56, 57, 97, 98, 99, 100, 101, 102, 103, 104, 105, 106, 107, 108, 109, 110, 111, 112, 113, 114, 115, 116, 117, 118, 119, 120, 121, 122]⟩
def hexD (n : Nat) : UInt8 := if n < 10 then UInt8.ofNat (48 + n) else UInt8.ofNat (87 + n)
theorem dig36 (n : Nat) (h16 : n < 16) (h : n < (⟨#[48, 49, 50, 51, 52, 53, 54, 55, 56, 57, 97, 98, 99, 100, 101, 102, 103, 104, 105, 106, 107, 108, 109, 110, 111, 112, 113, 114, 115, 116, 117, 118, 119, 120, 121, 122]⟩ : ByteArray).size) :
    (⟨#[48, 49, 50, 51, 52, 53, 54, 55, 56, 57, 97, 98, 99, 100, 101, 102, 103, 104, 105, 106, 107, 108, 109, 110, 111, 112, 113, 114, 115, 116, 117, 118, 119, 120, 121, 122]⟩ : ByteArray)[n]'h = hexD n := by
  have hn : n = 0 ∨ n = 1 ∨ n = 2 ∨ n = 3 ∨ n = 4 ∨ n = 5 ∨ n = 6 ∨ n = 7 ∨ n = 8 ∨ n = 9 ∨ n = 10 ∨ n = 11 ∨ n = 12 ∨ n = 13 ∨ n = 14 ∨ n = 15 := by omega
  rcases hn with rfl | rfl | rfl | rfl | rfl | rfl | rfl | rfl | rfl | rfl | rfl | rfl | rfl | rfl | rfl | rfl <;> rfl
/-- A number in base 16. -/
def hexL (u : Nat) : List UInt8 := if h : u < 16 then [hexD u] else hexL (u / 16) ++ [hexD (u % 16)]
termination_by u
decreasing_by omega
theorem hexL_small {u : Nat} (h : u < 16) : hexL u = [hexD u] := by rw [hexL, dif_pos h]
theorem hexL_big {u : Nat} (h : ¬ u < 16) : hexL u = hexL (u / 16) ++ [hexD (u % 16)] := by rw [hexL, dif_neg h]

/-- What the table of de Bruijn gives at 16. -/
def Tz (w : World) : Prop := w.cell? ⟨5, 15, none⟩ = some (.int .u8 4) ∧ 5 < w.heap.size
theorem Tz.below {w w' : World} (h : Tz w) (hb : Below w.heap.size w w') : Tz w' :=
  ⟨(hb.cell (p := ⟨5, 15, none⟩) h.2).trans h.1, Nat.lt_of_lt_of_le h.2 hb.size⟩

set_option maxHeartbeats 4000000 in
theorem trail64_16 (w : World) (h : Tz w) : Calls Tryd.prog 48 #[.int .u64 16] w fun e w' => e = .returned (.int .i64 4) ∧ w' = w := by
  have hc := h.1
  have e1 : bits .and .u64 16 (IntKind.u64.wrap (-16)) = 16 := by decide
  clear h
  go_enter Tryd.func48, Tryd.ntmps48
  go_wp2_with fail
  go_ret
  exact ⟨rfl, rfl⟩
set_option maxHeartbeats 4000000 in
theorem trail_16 (w : World) (h : Tz w) : Calls Tryd.prog 46 #[.int .u64 16] w fun e w' => e = .returned (.int .i64 4) ∧ w' = w := by
  have H := Lib.hid (trail64_16 w h)
  clear h
  go_enter Tryd.func46, Tryd.ntmps46
  go_wp2_with (go_at_call 48; ((with_reducible refine H.out.mono ?_); rintro e w1 ⟨rfl, rfl⟩))
  go_ret
  exact ⟨rfl, rfl⟩
set_option maxHeartbeats 4000000 in
theorem pow2_16 (w : World) : Calls Tryd.prog 45 #[.int .i64 16] w fun e w' => e = .returned (.bool true) ∧ w' = w := by
  have e1 : bits .and .i64 16 15 = 0 := by decide
  go_enter Tryd.func45, Tryd.ntmps45
  go_wp2_with fail
  go_ret
  exact ⟨rfl, rfl⟩

/-- The figures that are written. -/
def FigAt (w : World) (g k : Nat) (D : List UInt8) : Prop := ∃ cur t, w.heap[g]? = some (.cells cur t (0, 0)) ∧ cur.size = 65 ∧ cur.toList.drop (65 - k) = Lib.byteCells D
theorem FigAt.lt {w : World} {g k : Nat} {D : List UInt8} (h : FigAt w g k D) : g < w.heap.size := by
  obtain ⟨cur, t, hg, _⟩ := h
  exact (Array.getElem?_eq_some_iff.1 hg).1
theorem FigAt.below {w w' : World} {g k : Nat} {D : List UInt8} (h : FigAt w g k D) (hb : Below w.heap.size w w') : FigAt w' g k D := by
  have hlt := h.lt
  obtain ⟨cur, t, hg, hr⟩ := h
  exact ⟨cur, t, (hb.block g hlt).trans hg, hr⟩
theorem FigAt.frozen {w : World} {g k : Nat} {D : List UInt8} (h : FigAt w g k D) (i : Nat) : w.frozen? ⟨g, i, none⟩ = false := by
  obtain ⟨cur, t, hg, _⟩ := h
  simp [World.frozen?, hg]
theorem FigAt.any {w : World} {g k : Nat} {D : List UInt8} (h : FigAt w g k D) {i : Nat} (hi : i < 65) : ∃ v, w.cell? ⟨g, i, none⟩ = some v := by
  obtain ⟨cur, t, hg, hs, _⟩ := h
  exact ⟨cur[i], by simp [World.cell?, hg, hs, hi]⟩
theorem FigAt.cell {w : World} {g k : Nat} {D : List UInt8} (h : FigAt w g k D) (hD : D.length = k) {i : Nat} (hi : i < k) : w.cell? ⟨g, 65 - k + i, none⟩ = some (.int .u8 ((D.getD i 0).toNat : Int)) := by
  obtain ⟨cur, t, hg, hs, hd⟩ := h
  have h1 : (cur.toList.drop (65 - k))[i]? = (Lib.byteCells D)[i]? := by rw [hd]
  rw [List.getElem?_drop] at h1
  have h2 : (Lib.byteCells D)[i]? = some (.int .u8 ((D.getD i 0).toNat : Int)) := by
    unfold Lib.byteCells
    rw [List.getElem?_map, List.getElem?_eq_getElem (by omega), List.getD_eq_getElem?_getD, List.getElem?_eq_getElem (by omega)]
    rfl
  rw [h2] at h1
  simp only [World.cell?, hg]
  simpa using h1
theorem FigAt.put {w : World} {g k : Nat} {D : List UInt8} (h : FigAt w g k D) (hk : k < 65) (b : UInt8) : FigAt (w.setCell ⟨g, 64 - k, none⟩ (.int .u8 (b.toNat : Int))) g (k + 1) (b :: D) := by
  obtain ⟨cur, t, hg, hs, hd⟩ := h
  refine ⟨cur.setIfInBounds (64 - k) (.int .u8 (b.toNat : Int)), t, ?_, by simpa using hs, ?_⟩
  · rw [setCell_eq_setRow w g (64 - k) cur t (0, 0) _ hg]
    exact setRow_heap w g cur _ t _ hg
  · have hl : 64 - k < cur.toList.length := by rw [Array.length_toList]; omega
    rw [Array.toList_setIfInBounds, show 65 - (k + 1) = 64 - k from by omega, List.drop_set, if_neg (by omega), Nat.sub_self]
    have : cur.toList.drop (64 - k) = cur.toList[64 - k] :: cur.toList.drop (65 - k) := by
      rw [List.drop_eq_getElem_cons hl, show 64 - k + 1 = 65 - k from by omega]
    rw [this, List.set_cons_zero, hd]
    rfl
theorem slice65 (wx : World) (g q : Nat) (h : q < 65) : (Instr.sliceAt 78 (.pointer (some ⟨g, 0, none⟩)) (some (.int .i64 (q : Int))) none none).run Tryd.prog wx = .ok (.slice (some ⟨g, q, none⟩) (65 - q) (65 - q)) wx := by
  have ha : Tryd.prog.arrayLen 78 = 65 := by kernel_rfl
  have he : Tryd.prog.elem 78 = 5 := by kernel_rfl
  have hr := run_sliceAt_array_l (P := Tryd.prog) wx 78 ⟨g, 0, none⟩ (by rw [ha, he]; exact Tryd.underlying78) .i64 (q : Int) (by omega) (by rw [ha]; omega)
  rw [hr, ha, he, Tryd.sizeOf5]
  have h2 : (⟨g, 0, none⟩ : Addr).add q = ⟨g, q, none⟩ := by unfold Addr.add; split <;> simp_all
  have h3 : ¬ 65 = q := by omega
  simp [slicedAt, h2, h3]
theorem figs_text {w : World} {g k q : Nat} {D : List UInt8} (h : FigAt w g k D) (hD : D.length = k) (hk : k ≤ 65) (hq : q = 65 - k) :
    (convert 24 9 (.slice (some ⟨g, q, none⟩) (65 - q) (65 - q))).run Tryd.prog w = .ok (.string (txt D)) w := by
  have h1 : 65 - q = D.length := by omega
  rw [h1]
  refine run_convert_bytes_back (P := Tryd.prog) w 24 9 5 ⟨g, q, none⟩ D.length D Tryd.underlying24 Tryd.underlying5 Tryd.underlying9 ?_
  intro j hj
  have h2 : (⟨g, q, none⟩ : Addr).add j = ⟨g, q + j, none⟩ := by unfold Addr.add; split <;> simp_all
  have := h.cell hD (i := j) (by omega)
  rw [← hq, List.getD_eq_getElem?_getD, List.getElem?_eq_getElem hj] at this
  rw [h2, this]
  rfl
theorem info65 : (Tryd.prog.info? 78).map (fun i => (i.zero, i.size, i.bytes)) = some (some (.agg (Array.replicate 65 (.int .u8 0))), 65, 65) := by kernel_rfl
theorem zero65 : ∃ zs : Array Value, zs.size = 65 ∧ ∀ wx, (zeroValue 78).run Tryd.prog wx = .ok (.agg zs) wx := by
  obtain ⟨i, hi, hz, hs, hy⟩ := info_parts info65
  refine ⟨Array.replicate 65 (.int .u8 0), Array.size_replicate, fun wx => ?_⟩
  simp [zeroValue, typeInfo, hi, hz]

set_option maxRecDepth 100000 in
set_option maxHeartbeats 8000000 in
theorem formatBits_any (u : Nat) (w : World) (hu : u < 4294967296) (hT : Tz w) :
    Calls Tryd.prog 39 #[.slice none 0 0, .int .u64 (u : Int), .int .i64 16, .bool false, .bool false] w fun e w' => e = .returned (.tuple #[.slice none 0 0, .string (txt (hexL u))]) ∧ Below w.heap.size w w' := by
  have HP := Lib.hid (fun wx => pow2_16 wx)
  have HT := Lib.hid (fun wx (h : Tz wx) => trail_16 wx h)
  have HTZ := Lib.hid (fun wx (h : Below w.heap.size w wx) => hT.below h)
  obtain ⟨zs, hzs, hzr⟩ := zero65
  have hzn : ¬ zs = #[] := by intro h; rw [h] at hzs; cases hzs
  have HF0 : Hid (FigAt (w.alloc (.cells zs 78)) w.heap.size 0 []) := ⟨zs, _, blk_alloc_new w _, hzs, by rw [List.drop_eq_nil_of_le (by rw [Array.length_toList]; omega)]; rfl⟩
  have HB0 := Lib.hid ((Below.refl w.heap.size w).alloc (Nat.le_refl _) (.cells zs 78))
  clear hT hzs
  go_enter Tryd.func39, Tryd.ntmps39
  go_wp2_with (first | (go_at_call 45; ((with_reducible refine (HP.out _).mono ?_); rintro e w1 ⟨rfl, rfl⟩)) | (go_at_call 46; ((with_reducible refine (HT.out _ (HTZ.out _ HB0.out)).mono ?_); rintro e w1 ⟨rfl, rfl⟩)))
  obtain ⟨g, hg⟩ : ∃ g, g = w.heap.size := ⟨_, rfl⟩
  obtain ⟨w0, hw0⟩ : ∃ w0, w0 = w.alloc (.cells zs 78) := ⟨_, rfl⟩
  rw [← hw0] at HF0 HB0 ⊢
  rw [← hg] at HF0 ⊢
  have HG := Lib.hid hg
  clear hw0 hzr hzn hg HP HT HTZ
  go_loopw [1, 13] (fun uv iv w' => ∃ (v k : Nat) (D : List UInt8), uv = .int .u64 (v : Int) ∧ iv = .int .i64 (65 - (k : Int)) ∧ k ≤ 7 ∧ D.length = k ∧ v < 16 ^ (8 - k) ∧ hexL u = hexL v ++ D ∧ FigAt w' g k D ∧ Below w.heap.size w w') (fun uv _ _ => (intOf uv).toNat)
  case atStart => exact ⟨u, 0, [], rfl, rfl, by omega, rfl, by omega, by simp, HF0.out, HB0.out⟩
  case round =>
    obtain ⟨v, k, D, rfl, rfl, hk, hD, hv, hx, hf, hb⟩ := hrel
    obtain ⟨wo, rfl⟩ : ∃ wo, wo = wr := ⟨_, rfl⟩
    clear HF0 HB0
    have HF := Lib.hid hf
    have HB := Lib.hid hb
    have HX := Lib.hid hx
    have HD := Lib.hid hD
    have hv2 : v < 4294967296 := Nat.lt_of_lt_of_le hv (by
      have : (16 : Nat) ^ (8 - k) ≤ 16 ^ 8 := Nat.pow_le_pow_right (by omega) (by omega)
      omega)
    obtain ⟨q, hq⟩ : ∃ q : Nat, q = 64 - k := ⟨_, rfl⟩
    have hq1 : 65 - (k : Int) = (q : Int) + 1 := by omega
    have HQ := Lib.hid hq
    obtain ⟨x, hcx⟩ := HF.out.any (i := q) (by omega)
    have hfx := HF.out.frozen q
    have z1 : IntKind.i64.wrap ((q : Int)) = (q : Int) := IntWalk.i64_in _ (by omega)
    have hq64 : (q : Int) < 65 := by omega
    rw [hq1]
    by_cases hlt : 16 ≤ v
    · have hk6 : k ≤ 6 := by
        by_cases c : k = 7
        · subst c; omega
        · omega
      have HV := Lib.hid hv
      obtain ⟨r, hr⟩ : ∃ r, r = v % 16 := ⟨_, rfl⟩
      have e1 : bits .and .u64 (v : Int) 15 = (r : Int) := by
        rw [show (15 : Int) = ((15 : Nat) : Int) from rfl, u64_and_nat v 15 (by omega) (by omega), Nat.and_two_pow_sub_one_eq_mod v 4, hr]
      have hr16 : r < 16 := by omega
      have HR := Lib.hid hr
      have hdg := dig36 r hr16
      clear hf hb hx hD hv hq hq1 hr
      go_wp2_with fail
      go_roundw
      case rel =>
        refine ⟨v / 16, k + 1, hexD r :: D, by simp, by rw [show (q : Int) = 65 - ((k + 1 : Nat) : Int) from by have := HQ.out; omega], by omega, by rw [List.length_cons, HD.out], ?_, ?_, ?_, ?_⟩
        · have h1 := HV.out
          rw [show 8 - k = (8 - (k + 1)) + 1 from by omega, Nat.pow_succ] at h1
          omega
        · rw [HX.out, hexL_big (by omega), ← HR.out]
          simp
        · have := HF.out.put (by omega) (hexD r)
          rw [← HQ.out] at this
          exact this
        · exact HB.out.setCell (show w.heap.size ≤ g from by rw [HG.out]; exact Nat.le_refl _) _
      case measure => simp [intOf]; omega
    · have h16 : v < 16 := by omega
      have hdg := dig36 v h16
      have HW : Hid (FigAt (wo.setCell ⟨g, q, none⟩ (.int .u8 ((hexD v).toNat : Int))) g (k + 1) (hexD v :: D)) := by
        have := HF.out.put (by omega) (hexD v)
        rw [← hq] at this
        exact this
      have hv36 : (v : Int) < 36 := by omega
      have hsl := fun wx => slice65 wx g q (by omega)
      have hcv := figs_text HW.out (by rw [List.length_cons, HD.out]) (by omega) (show q = 65 - (k + 1) by omega)
      have HE : Hid (hexL u = hexD v :: D) := by show hexL u = _; rw [hx, hexL_small h16]; rfl
      have hvs : ¬ (16 : Int) ≤ (v : Int) := by omega
      clear hf hb hx hD hv hq hq1 hlt
      go_wp2_with fail
      go_ret2
      exact ⟨by rw [HE.out]; rfl, HB.out.setCell (show w.heap.size ≤ g from by rw [HG.out]; exact Nat.le_refl _) _⟩

def StrPost (l : List UInt8) (w : World) (e : Ending) (w' : World) : Prop := e = .returned (.string (txt l)) ∧ Below w.heap.size w w'
set_option maxRecDepth 100000 in
set_option maxHeartbeats 4000000 in
theorem formatI_any (u : Nat) (w : World) (hu : u < 4294967296) (hT : Tz w) :
    Calls Tryd.prog 26 #[.int .u64 (u : Int), .int .i64 16] w (StrPost (hexL u) w) := by
  have H := Lib.hid (formatBits_any u w hu hT)
  clear hT
  go_enter Tryd.func26, Tryd.ntmps26
  go_wp2_with (go_at_call 39; ((with_reducible refine H.out.mono ?_); rintro e w1 ⟨rfl, hb⟩; have HB := Lib.hid hb; clear hb))
  go_ret
  exact ⟨rfl, HB.out⟩
set_option maxRecDepth 100000 in
set_option maxHeartbeats 4000000 in
theorem formatU_any (u : Nat) (w : World) (hu : u < 4294967296) (hT : Tz w) :
    Calls Tryd.prog 12 #[.int .u64 (u : Int), .int .i64 16] w (StrPost (hexL u) w) := by
  have H := Lib.hid (formatI_any u w hu hT)
  clear hT
  go_enter Tryd.func12, Tryd.ntmps12
  go_wp2_with (go_at_call 26; ((with_reducible refine H.out.mono ?_); rintro e w1 ⟨rfl, hb⟩; have HB := Lib.hid hb; clear hb))
  go_ret
  exact ⟨rfl, HB.out⟩
end My
end Go.Proofs.YtabpkabeabemmaaDoor
