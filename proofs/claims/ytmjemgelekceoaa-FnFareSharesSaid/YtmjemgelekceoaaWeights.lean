/- The drawing function of weights. -/
import Derived.Test.YtmjemgelekceoaaLawsS
import Derived.Test.YtmjemgelekceoaaDrawA
import Derived.Deep.CutRange
namespace Go.Proofs.Ytmjemgelekceoaa
open Go.RowKit Go.Deep
set_option linter.unusedVariables false
namespace My

/-- m weights of an own row, and the reader. -/
structure WInv (w0 : World) (R K : Nat) (a : Option Addr) (len cap : Nat) (m g c : Nat) (wr : World) : Prop where
  far : len = 0 ∨ ∀ b, a = some b → b.block < w0.heap.size
  row : ∃ ws, wr.ownsRow w0.heap.size 3 1 (.slice (some ⟨g, 0, none⟩) m c) m (intCells ws m) ∧ ∀ i, i < m → -1 ≤ ws i ∧ ws i ≤ 1000001
  rd : RdX wr R K a len cap
  on : Only R w0 wr
  lt : R < w0.heap.size
theorem intCells_congr {f f' : Nat → Int} {n : Nat} (h : ∀ i, i < n → f i = f' i) : intCells f n = intCells f' n := by
  unfold intCells
  exact List.map_congr_left (fun i hi => by rw [h i (by simpa using hi)])
theorem intCells_push (f : Nat → Int) (n : Nat) (v : Int) : intCells f n ++ [.int .i64 v] = intCells (setF f n v) (n + 1) := by
  rw [intCells_succ, intCells_congr (f := f) (f' := setF f n v) (fun i hi => by simp only [setF]; rw [if_neg (by omega)])]
  simp [setF]
theorem WInv.push {w0 w w3 w4 : World} {R K K' m g c g' c' : Nat} {a : Option Addr} {len cap : Nat} {ws : Nat → Int} {v : Int} (h : WInv w0 R K a len cap m g c w) (ho : Only R w w3) (hi : RdX w3 R K' a len cap) (hb : ∀ i, i < m → -1 ≤ ws i ∧ ws i ≤ 1000001) (hv : -1 ≤ v ∧ v ≤ 1000001) (hg : w0.heap.size ≤ g)
    (hown : w4.ownsRow w0.heap.size 3 1 (.slice (some ⟨g', 0, none⟩) (m + 1) c') (m + 1) (intCells ws m ++ [.int .i64 v]))
    (hgrow : (w3.alloc (.cells #[.int .i64 v] 3)).grownBy w4 (Value.ownBlock (.slice (some ⟨g, 0, none⟩) m c))) : WInv w0 R K' a len cap (m + 1) g' c' w4 := by
  have hsz := (h.on.trans ho).size
  have hlt := h.lt
  have hb2 : Below w0.heap.size (w3.alloc (.cells #[.int .i64 v] 3)) w4 := (Below.refl _ _).grown hgrow (by simp; omega) (by intro q hq; simp [Value.ownBlock] at hq; omega)
  refine ⟨h.far, ⟨setF ws m v, ?_, ?_⟩, ?_, ?_, hlt⟩
  · rw [← intCells_push]; exact hown
  · intro i hi
    simp only [setF]
    split
    · exact hv
    · exact hb i (by omega)
  · obtain ⟨p, hp, hrd⟩ := hi.alloc (o := .cells #[.int .i64 v] 3)
    refine ⟨p, hp, ?_⟩
    have hR := hb2.block R hlt
    refine ⟨(World.cell?_of_block (w := w3.alloc _) hR).trans hrd.c0, (World.cell?_of_block (w := w3.alloc _) hR).trans hrd.c1, (World.frozen?_of_block (w := w3.alloc _) hR).trans hrd.f1, Nat.lt_of_lt_of_le hrd.lt hb2.size, hrd.le, ?_⟩
    rcases hrd.bytes with h0 | ⟨b, off, ha, hbR, hbb, hz⟩
    · exact Or.inl h0
    · rcases h.far with h0 | hf
      · exact Or.inl h0
      · have hbw : b < w0.heap.size := hf _ ha
        refine Or.inr ⟨b, off, ha, hbR, Nat.lt_of_lt_of_le hbb hb2.size, fun j hj => ?_⟩
        obtain ⟨z, hc, hz⟩ := hz j hj
        exact ⟨z, (World.cell?_of_block (w := w3.alloc _) (hb2.block b hbw)).trans hc, hz⟩
  · have h1 := (h.on.trans ho).alloc (.cells #[.int .i64 v] 3)
    exact ⟨hb2.os.trans h1.os, hb2.tape.trans h1.tape, hb2.output.trans h1.output, Nat.le_trans h1.size hb2.size, fun i hi hne => (hb2.block i hi).trans (h1.block i hi hne)⟩

/-- What l14Weights leaves. -/
def WPost (R K : Nat) (a : Option Addr) (len cap : Nat) (w0 : World) (e : Ending) (w' : World) : Prop :=
  ∃ (g m c : Nat) (ws : Nat → Int), e = .returned (.slice (some ⟨g, 0, none⟩) m c) ∧ m ≤ 9 ∧ m ≤ c ∧ w0.heap.size ≤ g ∧ OwnI w' g m ws ∧ (∀ i, i < m → -1 ≤ ws i ∧ ws i ≤ 1000001) ∧ RdX w' R K a len cap ∧ Only R w0 w'
theorem wpost_of {w0 w' : World} {R K m g c : Nat} {a : Option Addr} {len cap : Nat} (h : WInv w0 R K a len cap m g c w') (hm : m ≤ 9) : WPost R K a len cap w0 (.returned (.slice (some ⟨g, 0, none⟩) m c)) w' := by
  obtain ⟨ws, hrow, hb⟩ := h.row
  obtain ⟨o, k, l, _⟩ := ownI_of_owns hrow
  exact ⟨g, m, c, ws, rfl, hm, l, k, o, hb, h.rd, h.on⟩
def lenV : Value → Nat
  | .slice _ n _ => n
  | _ => 0

set_option maxRecDepth 100000 in
set_option maxHeartbeats 4000000 in
theorem l14Weights_any (R K : Nat) (a : Option Addr) (len cap : Nat) (w : World) (hK : K ≤ 1000000) (h : RdX w R K a len cap) (hfar : len = 0 ∨ ∀ b, a = some b → b.block < w.heap.size) :
    Calls Try.prog 29 #[.pointer (some ⟨R, 0, none⟩)] w (WPost R (K + 21) a len cap w) := by
  obtain ⟨i0, hi0, hz0, hz1, hz2⟩ := info_parts infoInt
  have HI := Lib.hid h
  have HO := Lib.hid (Only.refl R w)
  have hRlt := h.lt
  clear h
  go_enter Try.func29, Try.ntmps29
  go_wp2_with fail
  ((with_reducible refine (pick_atX (by repeat (first | exact HI.out | apply RdX.drewN | apply RdX.drew | apply RdX.alloc)) (by omega) (by omega) (by omega)).mono ?_); rintro e wx ⟨x, rfl, x0, x1, hinv, hon⟩; have hO := (show Only R w _ from (by repeat (first | exact HO.out | exact Only.refl _ _ | apply Only.drewN | apply Only.drew | apply Only.alloc))).trans hon; have Hx := Lib.hid hon; clear HI HO hon; have HI := Lib.hid hinv; have HO := Lib.hid hO; clear hinv hO)
  obtain ⟨w0, rfl⟩ : ∃ w0, w0 = w := ⟨_, rfl⟩
  go_wp2_with fail
  go_loopw [3, 4] (fun o n wr => ∃ j m g c : Nat, n = .int .i64 j ∧ j + m ≤ 5 ∧ o = .slice (some ⟨g, 0, none⟩) m c ∧ WInv w0 R (K + 1 + 3 * m) a len cap m g c wr) (fun _ n _ => (intOf n).toNat)
  case atStart =>
    refine ⟨x.toNat, 0, w0.heap.size, 0, by congr 1; omega, by omega, rfl, ⟨hfar, ⟨fun _ => 0, ?_, by omega⟩, HI.out, HO.out, hRlt⟩⟩
    exact (owns_empty (Nat.le_refl _)).kept Hx.out (Or.inr (by simp [Value.ownBlock]; omega))
  case round =>
    obtain ⟨j, m, g, c, rfl, hjm, rfl, hw⟩ := hrel
    clear HI HO Hx
    obtain ⟨w, rfl⟩ : ∃ w, w = wr := ⟨_, rfl⟩
    have HWI := Lib.hid hw
    have HI := Lib.hid hw.rd
    have HO := Lib.hid (Only.refl R w)
    obtain ⟨ws, hrow, hbd⟩ := hw.row
    have HROW := Lib.hid hrow
    have HBD := Lib.hid hbd
    have hgge := (ownI_of_owns hrow).2.1
    have hszw := hw.on.size
    have hRw : R < w.heap.size := by omega
    clear hw hrow hbd
    by_cases hj : 0 < j
    · go_wp2_with fail
      ((with_reducible refine (pick_atX (by repeat (first | exact HI.out | apply RdX.drewN | apply RdX.drew | apply RdX.alloc)) (by omega) (by omega) (by omega)).mono ?_); rintro e wp1 ⟨p1, rfl, p10, p11, hinv, hon⟩; have hO := (show Only R w _ from (by repeat (first | exact HO.out | exact Only.refl _ _ | apply Only.drewN | apply Only.drew | apply Only.alloc))).trans hon; have Hp1 := Lib.hid hon; clear HI HO hon; have HI := Lib.hid hinv; have HO := Lib.hid hO; clear hinv hO)
      go_wp2_with fail
      ((with_reducible refine (pick_atX (by repeat (first | exact HI.out | apply RdX.drewN | apply RdX.drew | apply RdX.alloc)) (by omega) (by omega) (by omega)).mono ?_); rintro e wp2 ⟨p2, rfl, p20, p21, hinv, hon⟩; have hO := (show Only R w _ from (by repeat (first | exact HO.out | exact Only.refl _ _ | apply Only.drewN | apply Only.drew | apply Only.alloc))).trans hon; have Hp2 := Lib.hid hon; clear HI HO hon; have HI := Lib.hid hinv; have HO := Lib.hid hO; clear hinv hO)
      go_wp2_with fail
      have HL := Lib.hid HI.out.lt
      ((with_reducible refine (pick_atX (by repeat (first | exact HI.out | apply RdX.drewN | apply RdX.drew | apply RdX.alloc)) (by omega) (by omega) (by omega)).mono ?_); rintro e wp3 ⟨p3, rfl, p30, p31, hinv, hon⟩; have hO := (show Only R w _ from (by repeat (first | exact HO.out | exact Only.refl _ _ | apply Only.drewN | apply Only.drew | apply Only.alloc))).trans hon; have Hp3 := Lib.hid hon; clear HI HO hon; have HI := Lib.hid hinv; have HO := Lib.hid hO; clear hinv hO)
      obtain ⟨v, hv, q, rfl, q0, q1⟩ := pick_cell (IntIn (-1) 1000001) Hp3.out HL.out (by
        intro v hv
        simp at hv
        rcases hv with rfl | rfl | rfl
        all_goals exact ⟨_, rfl, by omega, by omega⟩) p30 p31
      have hsz3 := HO.out.size
      go_wp2_with (at_builtin; go_loud (refine wpList_append_lies _ rfl (.tmp 12) (.tmp 22) 22 rfl w0.heap.size 3 i0 (.int .i64 0) 1 8 Try.underlying22 hi0 hz0 hz1 hz2 rfl (by decide) (.slice (some ⟨g, 0, none⟩) m c) m (intCells ws m) rfl ((HROW.out.kept HO.out (Or.inr (by simp [Value.ownBlock]; omega))).kept (World.grownBy_alloc _ _ none) (Or.inr (by simp [Value.ownBlock]))) ⟨wp3.heap.size, 0, none⟩ 1 1 [.int .i64 q] rfl rfl (news_one _ _ _) (by simp [Value.oneCell']) (by decide) (by unfold maxLen; omega) (by omega) (by simp; omega) (wp3.heap.size + 1) (by simp) ?_; intro g' c' w4 hown hgrow hat hlt4; have HW4 := Lib.hid (HWI.out.push HO.out HI.out HBD.out ⟨q0, q1⟩ hgge hown hgrow); clear hown hgrow hat))
      go_roundw
      case rel => exact ⟨j - 1, m + 1, g', c', by congr 1; omega, by omega, rfl, by rw [show K + 1 + 3 * (m + 1) = K + 1 + 3 * m + 1 + 1 + 1 from by omega]; exact HW4.out⟩
      case measure => simp [intOf]; omega
    · go_wp2_with fail
      ((with_reducible refine (pick_atX (by repeat (first | exact HI.out | apply RdX.drewN | apply RdX.drew | apply RdX.alloc)) (by omega) (by omega) (by omega)).mono ?_); rintro e wp4 ⟨p4, rfl, p40, p41, hinv, hon⟩; have hO := (show Only R w _ from (by repeat (first | exact HO.out | exact Only.refl _ _ | apply Only.drewN | apply Only.drew | apply Only.alloc))).trans hon; have Hp4 := Lib.hid hon; clear HI HO hon; have HI := Lib.hid hinv; have HO := Lib.hid hO; clear hinv hO)
      go_upto_if 26 with fail
      go_cut [3] from 24 to 34 (fun o wx => ∃ m g c : Nat, o = .slice (some ⟨g, 0, none⟩) m c ∧ m ≤ 6 ∧ WInv w0 R (K + 20) a len cap m g c wx)
      case first =>
        have hsz3 := HO.out.size
        by_cases hp : p4 = 0
        · go_wp2_with fail
          have HL := Lib.hid HI.out.lt
          ((with_reducible refine (pick_atX (by repeat (first | exact HI.out | apply RdX.drewN | apply RdX.drew | apply RdX.alloc)) (by omega) (by omega) (by omega)).mono ?_); rintro e wp5 ⟨p5, rfl, p50, p51, hinv, hon⟩; have hO := (show Only R w _ from (by repeat (first | exact HO.out | exact Only.refl _ _ | apply Only.drewN | apply Only.drew | apply Only.alloc))).trans hon; have Hp5 := Lib.hid hon; clear HI HO hon; have HI := Lib.hid hinv; have HO := Lib.hid hO; clear hinv hO)
          obtain ⟨v, hv, q, rfl, q0, q1⟩ := pick_cell (IntIn (-1) 1000001) Hp5.out HL.out (by
            intro v hv
            simp at hv
            rcases hv with rfl | rfl | rfl
            all_goals exact ⟨_, rfl, by omega, by omega⟩) p50 p51
          have hsz5 := HO.out.size
          go_wp2_with (at_builtin; go_loud (refine wpList_append_lies _ rfl (.tmp 27) (.tmp 33) 22 rfl w0.heap.size 3 i0 (.int .i64 0) 1 8 Try.underlying22 hi0 hz0 hz1 hz2 rfl (by decide) (.slice (some ⟨g, 0, none⟩) m c) m (intCells ws m) rfl ((HROW.out.kept HO.out (Or.inr (by simp [Value.ownBlock]; omega))).kept (World.grownBy_alloc _ _ none) (Or.inr (by simp [Value.ownBlock]))) ⟨wp5.heap.size, 0, none⟩ 1 1 [.int .i64 q] rfl rfl (news_one _ _ _) (by simp [Value.oneCell']) (by decide) (by unfold maxLen; omega) (by omega) (by simp; omega) (wp5.heap.size + 1) (by simp) ?_; intro g' c' w4 hown hgrow hat hlt4; have HW4 := Lib.hid (HWI.out.push HO.out HI.out HBD.out ⟨q0, q1⟩ hgge hown hgrow); clear hown hgrow hat))
          go_meet
          exact ⟨m + 1, g', c', rfl, by omega, ⟨HW4.out.far, HW4.out.row, HW4.out.rd.mono (by omega), HW4.out.on, hRlt⟩⟩
        · go_wp2_with fail
          go_meet
          refine ⟨m, g, c, rfl, by omega, HWI.out.far, ⟨ws, HROW.out.kept HO.out (Or.inr (by simp [Value.ownBlock]; omega)), HBD.out⟩, HI.out.mono (by omega), HWI.out.on.trans HO.out, hRlt⟩
      case rest =>
        obtain ⟨m, g, c, rfl, hm6, hw⟩ := hcut
        clear HI HO HROW HBD HWI Hp4 hgge hszw hRw
        obtain ⟨w, rfl⟩ : ∃ w, w = wc := ⟨_, rfl⟩
        have HWI := Lib.hid hw
        have HI := Lib.hid hw.rd
        have HO := Lib.hid (Only.refl R w)
        clear hw
        go_wp2_with fail
        ((with_reducible refine (pick_atX (by repeat (first | exact HI.out | apply RdX.drewN | apply RdX.drew | apply RdX.alloc)) (by omega) (by omega) (by omega)).mono ?_); rintro e wp6 ⟨p6, rfl, p60, p61, hinv, hon⟩; have hO := (show Only R w _ from (by repeat (first | exact HO.out | exact Only.refl _ _ | apply Only.drewN | apply Only.drew | apply Only.alloc))).trans hon; have Hp6 := Lib.hid hon; clear HI HO hon; have HI := Lib.hid hinv; have HO := Lib.hid hO; clear hinv hO)
        obtain ⟨ws, hrow, hbd⟩ := HWI.out.row
        have hgge := (ownI_of_owns hrow).2.1
        have hszw := HWI.out.on.size
        have hsz6 := HO.out.size
        have hw6 : WInv w0 R (K + 21) a len cap m g c wp6 := ⟨hfar, ⟨ws, hrow.kept HO.out (Or.inr (by simp [Value.ownBlock]; omega)), hbd⟩, HI.out, HWI.out.on.trans HO.out, hRlt⟩
        have HW6 := Lib.hid hw6
        clear hrow hbd hw6 HI HO HWI
        by_cases hp : p6 = 0
        · go_wp2_with fail
          go_loopw [3] (fun o wr => ∃ m g c : Nat, o = .slice (some ⟨g, 0, none⟩) m c ∧ m ≤ 9 ∧ WInv w0 R (K + 21) a len cap m g c wr) (fun o _ => 9 - lenV o)
          case atStart => exact ⟨m, g, c, rfl, by omega, HW6.out⟩
          case round =>
            obtain ⟨m, g, c, rfl, hm9, hw⟩ := hrel
            clear HW6
            obtain ⟨w, rfl⟩ : ∃ w, w = wr := ⟨_, rfl⟩
            have HWI := Lib.hid hw
            have HI := Lib.hid hw.rd
            have HO := Lib.hid (Only.refl R w)
            obtain ⟨ws, hrow, hbd⟩ := hw.row
            have HROW := Lib.hid hrow
            have HBD := Lib.hid hbd
            have hgge := (ownI_of_owns hrow).2.1
            have hszw := hw.on.size
            clear hw hrow hbd
            by_cases h8 : m ≤ 8
            · go_wp2_with (at_builtin; go_loud (refine wpList_append_lies _ rfl (.tmp 41) (.tmp 42) 22 rfl w0.heap.size 3 i0 (.int .i64 0) 1 8 Try.underlying22 hi0 hz0 hz1 hz2 rfl (by decide) (.slice (some ⟨g, 0, none⟩) m c) m (intCells ws m) rfl ((HROW.out.kept HO.out (Or.inr (by simp [Value.ownBlock]; omega))).kept (World.grownBy_alloc _ _ none) (Or.inr (by simp [Value.ownBlock]))) ⟨w.heap.size, 0, none⟩ 1 1 [.int .i64 1] rfl rfl (news_one _ _ _) (by simp [Value.oneCell']) (by decide) (by unfold maxLen; omega) (by omega) (by simp; omega) (w.heap.size + 1) (by simp) ?_; intro g' c' w4 hown hgrow hat hlt4; have HW7 := Lib.hid (HWI.out.push HO.out HI.out HBD.out ⟨by omega, by omega⟩ hgge hown hgrow); clear hown hgrow hat))
              go_roundw
              case rel => exact ⟨m + 1, g', c', rfl, by omega, HW7.out⟩
              case measure => simp [lenV]; omega
            · go_wp2_with fail
              go_ret
              exact wpost_of HWI.out hm9
        · go_wp2_with fail
          go_ret
          exact wpost_of HW6.out (by omega)

end My
end Go.Proofs.Ytmjemgelekceoaa
