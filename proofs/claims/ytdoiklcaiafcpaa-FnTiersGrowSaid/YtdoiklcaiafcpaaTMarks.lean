/- The drawing function of marks. -/
import Derived.Test.YtdoiklcaiafcpaaTGrow
namespace Go.Proofs.Ytdoiklcaiafcpaa
open Go.RowKit Go.Deep
set_option linter.unusedVariables false
namespace My

theorem MInv.fromCell {w0 w : World} {R K m g c : Nat} {a : Option Addr} {len cap : Nat} (h : MInv w0 R K a len cap m g c w) (hm : 1 ≤ m) :
    ∃ x : Int, 0 ≤ x ∧ x ≤ 1000000 + 100 * m ∧ ∀ w', Only R w w' → w'.cell? ⟨g, (m - 1) * 2, none⟩ = some (.int .i64 x) := by
  obtain ⟨xs, hr, hv⟩ := h.row
  have hxl := hr.1
  have hg := h.base
  have hlt := h.lt
  obtain ⟨e, h0, h1⟩ := getI_of hv (i := (m - 1) * 2) (by omega)
  refine ⟨getI xs ((m - 1) * 2), h0, h1, fun w' ho => ?_⟩
  exact (World.cell?_of_block (w := w) (ho.block g hg.2 (by simp; omega))).trans ((hr.cellAt _ (by omega)).trans e)
theorem MInv.start {w0 w : World} {R K : Nat} {a : Option Addr} {len cap : Nat} {x : Int} (hfar : len = 0 ∨ ∀ b, a = some b → b.block < w0.heap.size) (ho : Only R w0 w) (hi : RdX w R K a len cap) (hR : R < w0.heap.size) (h0 : 0 ≤ x) (h1 : x ≤ 20) :
    MInv w0 R K a len cap 1 w.heap.size 1 (w.alloc (.cells #[.int .i64 0, .int .i64 x] 42)) := by
  refine ⟨hfar, ⟨[.int .i64 0, .int .i64 x], ?_, ?_⟩, hi.alloc, ho.alloc _, hR⟩
  · exact World.ownsRow_lit w #[.int .i64 0, .int .i64 x] 1 ho.size (by simp [maxLen]) rfl
  · intro v hv
    simp at hv
    rcases hv with rfl | rfl
    · exact ⟨0, rfl, by omega, by omega⟩
    · exact ⟨x, rfl, h0, by omega⟩

set_option maxRecDepth 100000 in
set_option maxHeartbeats 4000000 in
theorem l14Marks_any (R K : Nat) (a : Option Addr) (len cap : Nat) (w : World) (hK : K ≤ 1000000) (h : RdX w R K a len cap) (hfar : len = 0 ∨ ∀ b, a = some b → b.block < w.heap.size) :
    Calls Try.prog 40 #[.pointer (some ⟨R, 0, none⟩)] w (MPost R (K + 20) a len cap w) := by
  obtain ⟨i0, hi0, hz0, hz1, hz2⟩ := info_parts infoMark
  have HI := Lib.hid h
  have HO := Lib.hid (Only.refl R w)
  have hRlt := h.lt
  clear h
  go_enter Try.func40, Try.ntmps40
  go_wp2_with fail
  ((with_reducible refine (pick_atX (by repeat (first | exact HI.out | apply RdX.drewN | apply RdX.drew | apply RdX.alloc)) (by omega) (by omega) (by omega)).mono ?_); rintro e wx ⟨x, rfl, x0, x1, hinv, hon⟩; have hO := (show Only R w _ from (by repeat (first | exact HO.out | exact Only.refl _ _ | apply Only.drewN | apply Only.drew | apply Only.alloc))).trans hon; have Hx := Lib.hid hon; clear HI HO hon; have HI := Lib.hid hinv; have HO := Lib.hid hO; clear hinv hO)
  obtain ⟨w0, rfl⟩ : ∃ w0, w0 = w := ⟨_, rfl⟩
  have HM := Lib.hid (MInv.start hfar HO.out HI.out hRlt x0 (by omega : x ≤ 20))
  have hszx := HO.out.size
  clear HI HO Hx
  go_wp2_with fail
  obtain ⟨w, hw⟩ : ∃ w, w = wx.alloc (.cells #[.int .i64 0, .int .i64 x] 42) := ⟨_, rfl⟩
  obtain ⟨g, hg⟩ : ∃ g, g = wx.heap.size := ⟨_, rfl⟩
  rw [← hw, ← hg] at HM
  rw [← hw, ← hg]
  clear hw hg hszx
  have HI := Lib.hid HM.out.rd
  have HO := Lib.hid (Only.refl R w)
  ((with_reducible refine (pick_atX (by repeat (first | exact HI.out | apply RdX.drewN | apply RdX.drew | apply RdX.alloc)) (by omega) (by omega) (by omega)).mono ?_); rintro e wn ⟨n, rfl, n0, n1, hinv, hon⟩; have hO := (show Only R w _ from (by repeat (first | exact HO.out | exact Only.refl _ _ | apply Only.drewN | apply Only.drew | apply Only.alloc))).trans hon; have Hn := Lib.hid hon; clear HI HO hon; have HI := Lib.hid hinv; have HO := Lib.hid hO; clear hinv hO)
  have HM2 := Lib.hid (HM.out.later HO.out HI.out)
  clear HI HO HM Hn
  go_wp2_with fail
  go_loopw [3, 4] (fun o n wr => ∃ j m g c : Nat, n = .int .i64 j ∧ j + m ≤ 4 ∧ 1 ≤ m ∧ o = .slice (some ⟨g, 0, none⟩) m c ∧ MInv w0 R (K + 2 + 2 * m) a len cap m g c wr) (fun _ n _ => (intOf n).toNat)
  case atStart => exact ⟨n.toNat, 1, g, 1, by congr 1; omega, by omega, by omega, rfl, ⟨HM2.out.far, HM2.out.row, HM2.out.rd.mono (by omega), HM2.out.on, HM2.out.lt⟩⟩
  case round =>
    obtain ⟨j, m, g, c, rfl, hjm, hm1, rfl, hmi⟩ := hrel
    clear HM2 w
    obtain ⟨w, rfl⟩ : ∃ w, w = wr := ⟨_, rfl⟩
    have HM := Lib.hid hmi
    clear hmi
    by_cases hj : 0 < j
    · have HI := Lib.hid HM.out.rd
      have HO := Lib.hid (Only.refl R w)
      obtain ⟨f, f0, f1, hcell⟩ := HM.out.fromCell hm1
      have HC := Lib.hid hcell
      have cf := hcell w (Only.refl R w)
      have hgb := HM.out.base
      have hszw := HM.out.on.size
      obtain ⟨xs, hrow, hvals⟩ := HM.out.row
      have HROW := Lib.hid hrow
      have HV := Lib.hid hvals
      clear hcell hrow hvals
      have s1 : IntKind.i64.wrap ((m : Int) - 1) = (m : Int) - 1 := IntWalk.i64_in _ (by omega)
      have s2 : (0 : Int) ≤ (m : Int) - 1 := by omega
      have s3 : (m : Int) - 1 < (m : Int) := by omega
      have s4 : ((m : Int) - 1).toNat = m - 1 := by omega
      have s5 : (1 : Int) ≤ (m : Int) := by omega
      have s6 : 1 ≤ m := by omega
      have s7 : IntKind.i64.wrap (f + 1) = f + 1 := IntWalk.i64_in _ (by omega)
      go_wp2_with fail
      have hl4 : m ≤ 4 := by omega
      go_region_law (first | (go_simp; (go_at_call 36; ((with_reducible refine (pick_atX (n := 30) (by repeat (first | exact HI.out | apply RdX.drewN | apply RdX.drew | apply RdX.alloc)) (by omega) (by omega) (by omega)).mono ?_); rintro e wx ⟨x, rfl, x0, x1, hinv, hon⟩; have hO := (show Only R w _ from (by repeat (first | exact HO.out | exact Only.refl _ _ | apply Only.drewN | apply Only.drew | apply Only.alloc))).trans hon; have Hx := Lib.hid hon; clear HI HO hon; have HI := Lib.hid hinv; have HO := Lib.hid hO; clear hinv hO)); have cf := HC.out _ HO.out; have s8 : IntKind.i64.wrap (f + 1 + x) = f + 1 + x := IntWalk.i64_in _ (by omega)) | (go_simp; (go_at_call 36; ((with_reducible refine (pick_atX (n := 20) (by repeat (first | exact HI.out | apply RdX.drewN | apply RdX.drew | apply RdX.alloc)) (by omega) (by omega) (by omega)).mono ?_); rintro e wy ⟨y, rfl, y0, y1, hinv, hon⟩; have hO := (show Only R w _ from (by repeat (first | exact HO.out | exact Only.refl _ _ | apply Only.drewN | apply Only.drew | apply Only.alloc))).trans hon; have Hy := Lib.hid hon; clear HI HO hon; have HI := Lib.hid hinv; have HO := Lib.hid hO; clear hinv hO)); have cf := HC.out _ HO.out) | (refine step_append_lies _ rfl (.tmp 15) (.tmp 30) 37 rfl w0.heap.size 42 i0 (.agg #[.int .i64 0, .int .i64 0]) 2 16 Try.underlying37 hi0 hz0 hz1 hz2 rfl (by decide) (.slice (some ⟨g, 0, none⟩) m c) m xs (by simp [Act.eval]) ((HROW.out.kept HO.out (Or.inr (by simp [Value.ownBlock]; omega))).kept (World.grownBy_alloc _ _ none) (Or.inr (by simp [Value.ownBlock]))) ⟨wy.heap.size, 0, none⟩ 1 1 [.int .i64 (f + 1 + x), .int .i64 y] (by simp [Act.eval]) rfl (news_two _ _ _ _) (by simp [Value.oneCell']) (by decide) (by unfold maxLen; omega) (by omega) (by have := HO.out.size; simp; omega) (wy.heap.size + 1) (by simp) ?_; intro g' c' w4 hown hgrow hat hlt4; have HW4 := Lib.hid (HM.out.push hm1 HO.out HI.out HV.out ⟨by omega, by omega⟩ ⟨by omega, by omega⟩ hown hgrow); clear hown hgrow hat))
      all_goals
        go_wp2_with fail
        go_roundw
        case rel => exact ⟨j - 1, m + 1, g', c', by congr 1; omega, by omega, by omega, rfl, ⟨HW4.out.far, HW4.out.row, HW4.out.rd.mono (by omega), HW4.out.on, HW4.out.lt⟩⟩
        case measure => simp [intOf]; omega
    · have HI := Lib.hid HM.out.rd
      have HO := Lib.hid (Only.refl R w)
      go_wp2_with fail
      ((with_reducible refine (pick_atX (by repeat (first | exact HI.out | apply RdX.drewN | apply RdX.drew | apply RdX.alloc)) (by omega) (by omega) (by omega)).mono ?_); rintro e wy ⟨y, rfl, y0, y1, hinv, hon⟩; have hO := (show Only R w _ from (by repeat (first | exact HO.out | exact Only.refl _ _ | apply Only.drewN | apply Only.drew | apply Only.alloc))).trans hon; have Hy := Lib.hid hon; clear HI HO hon; have HI := Lib.hid hinv; have HO := Lib.hid hO; clear hinv hO)
      have HM2 := Lib.hid (HM.out.later HO.out HI.out)
      have hm4 : m ≤ 4 := by omega
      have hmc : m ≤ c := by
        obtain ⟨xs, hr, _⟩ := HM.out.row
        rcases hr.2 with h | ⟨g2, c2, cur, h, _, _, h2, _⟩
        · cases h.1
        · simp only [Value.slice.injEq] at h; omega
      obtain ⟨xs, hrow, hvals⟩ := HM2.out.row
      have hxl := hrow.1
      obtain ⟨hge, _, _⟩ := getI_of hvals (i := (m - 1) * 2 + 1) (by omega)
      have cf := (hrow.cellAt ((m - 1) * 2 + 1) (by omega)).trans hge
      have ff := hrow.frozenAt ((m - 1) * 2 + 1)
      clear HI HO HM Hy hrow hvals hge hxl
      by_cases hy : y = 0
      · have s1 : IntKind.i64.wrap ((m : Int) - 1) = (m : Int) - 1 := IntWalk.i64_in _ (by omega)
        have s2 : (0 : Int) ≤ (m : Int) - 1 := by omega
        have s3 : (m : Int) - 1 < (m : Int) := by omega
        have s4 : ((m : Int) - 1).toNat = m - 1 := by omega
        have s5 : (1 : Int) ≤ (m : Int) := by omega
        have s6 : 1 ≤ m := by omega
        have HM3 := Lib.hid (HM2.out.set ((m - 1) * 2 + 1) (x := 1000000) (by omega) (by omega))
        go_wp2_with fail
        go_ret
        exact ⟨g, m, c, rfl, hm1, hm4, hmc, ⟨HM3.out.far, HM3.out.row, HM3.out.rd.mono (by omega), HM3.out.on, HM3.out.lt⟩⟩
      · go_wp2_with fail
        go_ret
        exact ⟨g, m, c, rfl, hm1, hm4, hmc, ⟨HM2.out.far, HM2.out.row, HM2.out.rd.mono (by omega), HM2.out.on, HM2.out.lt⟩⟩

end My
end Go.Proofs.Ytdoiklcaiafcpaa
