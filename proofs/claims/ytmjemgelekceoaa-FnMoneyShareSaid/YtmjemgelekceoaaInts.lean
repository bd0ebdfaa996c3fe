/- Slices of ints in memory; slices.Max and slices.Index over them; the exact laws' helpers on them. -/
import Derived.Test.YtmjemgelekceoaaShareM
import Derived.WalkSmall
import Derived.Deep.OwnRows
import Derived.StillTailTactics
import Derived.Laws.ResultCell
namespace Go.Proofs.Ytmjemgelekceoaa
open Go.RowKit Go.Deep
set_option linter.unusedVariables false
namespace My

/-- n ints lie in a row of cells. -/
structure IntsAt (w : World) (b off n : Nat) (f : Nat → Int) : Prop where
  c : ∀ i, i < n → w.cell? ⟨b, off + i, none⟩ = some (.int .i64 (f i))
  lt : b < w.heap.size
theorem IntsAt.below {w w' : World} {b off n B : Nat} {f : Nat → Int} (h : IntsAt w b off n f) (hb : Below B w w') (hB : w.heap.size ≤ B) : IntsAt w' b off n f :=
  ⟨fun i hi => (hb.cell (p := ⟨b, off + i, none⟩) (Nat.lt_of_lt_of_le h.lt hB)).trans (h.c i hi), Nat.lt_of_lt_of_le h.lt hb.size⟩
/-- n ints lie at the head of a block that may be written. -/
def OwnI (w : World) (g n : Nat) (f : Nat → Int) : Prop := ∃ t cur, w.heap[g]? = some (.cells cur t (0, 0)) ∧ ∀ i, i < n → cur[i]? = some (.int .i64 (f i))
theorem OwnI.cell {w : World} {g n : Nat} {f : Nat → Int} (h : OwnI w g n f) {i : Nat} (hi : i < n) : w.cell? ⟨g, i, none⟩ = some (.int .i64 (f i)) := by
  obtain ⟨t, cur, hh, hc⟩ := h
  simp only [World.cell?, hh]; exact hc i hi
theorem OwnI.frozen {w : World} {g n : Nat} {f : Nat → Int} (h : OwnI w g n f) (i : Nat) : w.frozen? ⟨g, i, none⟩ = false := by
  obtain ⟨t, cur, hh, hc⟩ := h
  simp [World.frozen?, hh]
theorem OwnI.lt {w : World} {g n : Nat} {f : Nat → Int} (h : OwnI w g n f) : g < w.heap.size := by
  obtain ⟨t, cur, hh, hc⟩ := h
  by_cases hx : g < w.heap.size
  · exact hx
  · rw [Array.getElem?_eq_none (by omega)] at hh; cases hh
theorem OwnI.ints {w : World} {g n : Nat} {f : Nat → Int} (h : OwnI w g n f) : IntsAt w g 0 n f :=
  ⟨fun i hi => by rw [Nat.zero_add]; exact h.cell hi, h.lt⟩
theorem OwnI.of_block {w w' : World} {g n : Nat} {f : Nat → Int} (h : OwnI w g n f) (e : w'.heap[g]? = w.heap[g]?) : OwnI w' g n f := by
  obtain ⟨t, cur, hh, hc⟩ := h
  exact ⟨t, cur, e.trans hh, hc⟩
theorem OwnI.below {w w' : World} {g n B : Nat} {f : Nat → Int} (h : OwnI w g n f) (hb : Below B w w') (hB : w.heap.size ≤ B) : OwnI w' g n f :=
  h.of_block (hb.block g (Nat.lt_of_lt_of_le h.lt hB))
theorem OwnI.set {w : World} {g n : Nat} {f : Nat → Int} (h : OwnI w g n f) (i : Nat) (v : Int) : OwnI (w.setCell ⟨g, i, none⟩ (.int .i64 v)) g n (setF f i v) := by
  obtain ⟨t, cur, hh, hc⟩ := h
  refine ⟨t, cur.setIfInBounds i (.int .i64 v), ?_, ?_⟩
  · simp [World.setCell, Array.getElem?_modify, hh]
  · intro j hj
    rw [Array.getElem?_setIfInBounds]
    by_cases e : i = j
    · subst e
      have : i < cur.size := by
        by_cases hx : i < cur.size
        · exact hx
        · have := hc i hj; rw [Array.getElem?_eq_none (by omega)] at this; cases this
      simp [this, setF]
    · have e' : ¬ j = i := fun h => e h.symm
      simp [e, setF, e', hc j hj]
theorem OwnI.setOther {w : World} {g n : Nat} {f : Nat → Int} (h : OwnI w g n f) {a : Addr} (ha : g ≠ a.block) (v : Value) : OwnI (w.setCell a v) g n f := h.of_block (blk_setCell_other _ _ _ _ ha)
theorem OwnI.congr {w : World} {g n : Nat} {f f' : Nat → Int} (h : OwnI w g n f) (e : ∀ i, i < n → f i = f' i) : OwnI w g n f' := by
  obtain ⟨t, cur, hh, hc⟩ := h
  exact ⟨t, cur, hh, fun i hi => by rw [hc i hi, e i hi]⟩
theorem OwnI.of_row {w : World} {g t n : Nat} {F : Nat → Value} {f : Nat → Int} (h : w.rowIs g t n F) (e : ∀ i, i < n → F i = .int .i64 (f i)) : OwnI w g n f := by
  obtain ⟨cur, hh, hs, hc⟩ := h
  exact ⟨t, cur, hh, fun i hi => by rw [hc i hi, e i hi]⟩

/-- n ints in an owned row. -/
def intCells (f : Nat → Int) (n : Nat) : List Value := (List.range n).map fun i => .int .i64 (f i)
theorem intCells_succ (f : Nat → Int) (n : Nat) : intCells f (n + 1) = intCells f n ++ [.int .i64 (f n)] := by simp [intCells, List.range_succ]
theorem ownI_of_owns {w : World} {base e g n cap : Nat} {f : Nat → Int} (h : w.ownsRow base e 1 (.slice (some ⟨g, 0, none⟩) n cap) n (intCells f n)) : OwnI w g n f ∧ base ≤ g ∧ n ≤ cap ∧ cap ≤ maxLen := by
  obtain ⟨_, h | ⟨g', cap', cur, hv, hb, hh, hn, hc, hs, ht⟩⟩ := h
  · cases h.1
  · simp only [Value.slice.injEq, Option.some.injEq, Addr.mk.injEq, true_and, and_true] at hv
    obtain ⟨rfl, rfl⟩ := hv
    refine ⟨⟨e, cur, hh, fun i hi => ?_⟩, hb, hn, hc⟩
    have h1 : (cur.toList.take (n * 1))[i]? = (intCells f n)[i]? := by rw [ht]
    rw [List.getElem?_take_of_lt (by omega)] at h1
    simpa [intCells, hi] using h1
theorem owns_empty {w : World} {base e : Nat} {f : Nat → Int} (hb : base ≤ w.heap.size) : (w.alloc (.cells #[] e)).ownsRow base e 1 (.slice (some ⟨w.heap.size, 0, none⟩) 0 0) 0 (intCells f 0) :=
  ⟨rfl, Or.inr ⟨w.heap.size, 0, #[], rfl, hb, blk_alloc_new _ _, Nat.le_refl _, by simp [maxLen], rfl, rfl⟩⟩
theorem infoInt : (Try.prog.info? 3).map (fun i => (i.zero, i.size, i.bytes)) = some (some (.int .i64 0), 1, 8) := by kernel_rfl

set_option maxHeartbeats 1000000 in
theorem Max_any (b off n cap : Nat) (f : Nat → Int) (w : World) (h : IntsAt w b off n f) (hn : 1 ≤ n) (hn1 : n ≤ 9223372036854775807) (hc : n ≤ cap) :
    Calls Try.prog 26 #[.slice (some ⟨b, off, none⟩) n cap] w fun e w' => e = .returned (.int .i64 (f (argTo f n))) ∧ w = w' := by
  have c0 := h.c 0 (by omega)
  rw [Nat.add_zero] at c0
  have H := Lib.hid h
  clear h
  have hn2 : ¬ (n : Int) < 1 := by omega
  have hn3 : 0 < n := by omega
  go_enter Try.func26, Try.ntmps26
  go_wp2_with fail
  go_loop [3, 4] (fun m i => ∃ k : Nat, 1 ≤ k ∧ k ≤ n ∧ i = .int .i64 k ∧ m = .int .i64 (f (argTo f k))) (fun _ i => n - (intOf i).toNat)
  case atStart => exact ⟨1, Nat.le_refl _, hn, rfl, rfl⟩
  case round =>
    obtain ⟨k, hk1, hk, rfl, rfl⟩ := hrel
    by_cases hlt : k < n
    · have ck := H.out.c k hlt
      by_cases hm : f (argTo f k) < f k
      · have HE : Hid (argTo f (k + 1) = k) := by show argTo f (k + 1) = k; rw [argTo, if_neg (by omega), if_pos hm]
        go_wp2_with fail
        go_round
        case rel => exact ⟨k + 1, by omega, by omega, by go_num, by rw [HE.out]⟩
        case measure => simp [intOf]; omega
      · have HE : Hid (argTo f (k + 1) = argTo f k) := by show argTo f (k + 1) = argTo f k; rw [argTo, if_neg (by omega), if_neg hm]
        go_wp2_with fail
        go_round
        case rel => exact ⟨k + 1, by omega, by omega, by go_num, by rw [HE.out]⟩
        case measure => simp [intOf]; omega
    · have e : k = n := by omega
      subst e
      go_wp2_with fail
      go_ret
      exact ⟨rfl, rfl⟩

set_option maxHeartbeats 1000000 in
theorem Index_any (b off n cap : Nat) (f : Nat → Int) (w : World) (h : IntsAt w b off n f) (hn : 1 ≤ n) (hn1 : n ≤ 9223372036854775807) (hc : n ≤ cap) :
    Calls Try.prog 25 #[.slice (some ⟨b, off, none⟩) n cap, .int .i64 (f (argTo f n))] w fun e w' => e = .returned (.int .i64 (argTo f n : Nat)) ∧ w = w' := by
  have H := Lib.hid h
  clear h
  have ha := argTo_lt f n (by omega)
  have HF := Lib.hid (argTo_first f n)
  obtain ⟨v, hv⟩ : ∃ v, v = f (argTo f n) := ⟨_, rfl⟩
  rw [← hv]
  have HV := Lib.hid hv
  clear hv
  go_enter Try.func25, Try.ntmps25
  go_wp2_with fail
  go_loop [8] (fun i => ∃ k : Nat, k ≤ argTo f n ∧ i = .int .i64 k) (fun i => n - (intOf i).toNat)
  case atStart => exact ⟨0, Nat.zero_le _, rfl⟩
  case round =>
    obtain ⟨k, hk, rfl⟩ := hrel
    have hlt : k < n := by omega
    have ck := H.out.c k hlt
    by_cases he : k = argTo f n
    · have hb : (v == f k) = true := by rw [HV.out, he]; simp
      have HE := Lib.hid he
      clear he
      go_wp2_with fail
      go_ret
      exact ⟨by rw [← HE.out]; rfl, rfl⟩
    · have hb : (v == f k) = false := by
        have := HF.out k (by omega)
        have h2 := HV.out
        simp; omega
      have hkk : k + 1 ≤ argTo f n := by omega
      clear he
      go_wp2_with fail
      go_round
      case rel => exact ⟨k + 1, hkk, by go_num⟩
      case measure => simp [intOf]; omega

end My
end Go.Proofs.Ytmjemgelekceoaa
