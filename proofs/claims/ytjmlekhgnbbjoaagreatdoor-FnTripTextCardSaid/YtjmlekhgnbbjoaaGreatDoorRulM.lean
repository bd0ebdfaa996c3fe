/- The drawing function of marks, for drawn rules. -/
import Derived.Test.YtjmlekhgnbbjoaaGreatDoorRulX
import Derived.OwnWalk
import Derived.Deep.RegionLaw
namespace Go.Proofs.YtjmlekhgnbbjoaaGreatDoor
open Go.RowKit Go.Deep
set_option linter.unusedVariables false
namespace My

theorem infoMark : (Tryz.prog.info? 132).map (fun i => (i.zero, i.size, i.bytes)) = some (some (.agg #[.int .i64 0, .int .i64 0]), 2, 16) := by kernel_rfl
/-- Ints in a list of cells. -/
def IntVals (b : Int) (xs : List Value) : Prop := ∀ v, v ∈ xs → ∃ x : Int, v = .int .i64 x ∧ 0 ≤ x ∧ x ≤ b
def getI (xs : List Value) (i : Nat) : Int := match xs[i]? with
  | some (.int .i64 x) => x
  | _ => 0
def msOf (xs : List Value) (m : Nat) : List (Int × Int) := (List.range m).map fun k => (getI xs (k * 2), getI xs (k * 2 + 1))
theorem getI_of {xs : List Value} {b : Int} (h : IntVals b xs) {i : Nat} (hi : i < xs.length) : xs[i]? = some (.int .i64 (getI xs i)) ∧ 0 ≤ getI xs i ∧ getI xs i ≤ b := by
  obtain ⟨x, hx, h0, h1⟩ := h xs[i] (List.getElem_mem hi)
  have e : xs[i]? = some (.int .i64 x) := by rw [List.getElem?_eq_getElem hi, hx]
  have e2 : getI xs i = x := by simp only [getI, e]
  rw [e2]; exact ⟨e, h0, h1⟩
theorem msOf_at {w : World} {base g m c : Nat} {b : Int} {xs : List Value} (h : w.ownsRow base 132 2 (.slice (some ⟨g, 0, none⟩) m c) m xs) (hv : IntVals b xs) (hg : g < w.heap.size) :
    MarksAt w g 0 (msOf xs m) := by
  have hl : (msOf xs m).length = m := by simp [msOf]
  have hxl : xs.length = m * 2 := h.1
  refine ⟨fun k hk => ?_, fun k hk => ?_, hg⟩
  · rw [hl] at hk
    rw [Nat.zero_add, h.cellAt (k * 2) (by omega), (getI_of hv (by omega)).1]
    simp [mF, msOf, hk]
  · rw [hl] at hk
    rw [Nat.zero_add, h.cellAt (k * 2 + 1) (by omega), (getI_of hv (by omega)).1]
    simp [mP, msOf, hk]
theorem IntVals.mono {b b' : Int} {xs : List Value} (h : IntVals b xs) (hb : b ≤ b') : IntVals b' xs := by
  intro v hv
  obtain ⟨x, e, h0, h1⟩ := h v hv
  exact ⟨x, e, h0, by omega⟩
theorem IntVals.set {b : Int} {xs : List Value} (h : IntVals b xs) (i : Nat) {x : Int} (h0 : 0 ≤ x) (h1 : x ≤ b) : IntVals b (xs.set i (.int .i64 x)) := by
  intro v hv
  rcases List.mem_or_eq_of_mem_set hv with hv | hv
  · exact h v hv
  · exact ⟨x, hv, h0, h1⟩

/-- m marks of an own row, and the reader. -/
structure MInv (w0 : World) (R K : Nat) (a : Option Addr) (len cap : Nat) (m g c : Nat) (wr : World) : Prop where
  far : len = 0 ∨ ∀ b, a = some b → b.block < w0.heap.size
  row : ∃ xs, wr.ownsRow w0.heap.size 132 2 (.slice (some ⟨g, 0, none⟩) m c) m xs ∧ IntVals (1000000 + 100 * m) xs
  rd : RdX wr R K a len cap
  on : Only R w0 wr
  lt : R < w0.heap.size
theorem MInv.base {w0 wr : World} {R K m g c : Nat} {a : Option Addr} {len cap : Nat} (h : MInv w0 R K a len cap m g c wr) : w0.heap.size ≤ g ∧ g < wr.heap.size := by
  obtain ⟨xs, hr, _⟩ := h.row
  exact hr.lt g rfl
theorem MInv.push {w0 w w3 w4 : World} {R K K' m g c g' c' : Nat} {a : Option Addr} {len cap : Nat} {x y : Int} {xs : List Value} (h : MInv w0 R K a len cap m g c w) (hm : 1 ≤ m) (ho : Only R w w3) (hi : RdX w3 R K' a len cap) (hb : IntVals (1000000 + 100 * m) xs) (hx : 0 ≤ x ∧ x ≤ 1000000 + 100 * (m + 1)) (hy : 0 ≤ y ∧ y ≤ 1000000)
    (hown : w4.ownsRow w0.heap.size 132 2 (.slice (some ⟨g', 0, none⟩) (m + 1) c') (m + 1) (xs ++ [.int .i64 x, .int .i64 y]))
    (hgrow : (w3.alloc (.cells #[.int .i64 x, .int .i64 y] 132)).grownBy w4 (Value.ownBlock (.slice (some ⟨g, 0, none⟩) m c))) : MInv w0 R K' a len cap (m + 1) g' c' w4 := by
  have hsz := (h.on.trans ho).size
  have hlt := h.lt
  have hg := h.base.1
  have hb2 : Below w0.heap.size (w3.alloc (.cells #[.int .i64 x, .int .i64 y] 132)) w4 := (Below.refl _ _).grown hgrow (by simp; omega) (by intro q hq; simp [Value.ownBlock] at hq; omega)
  refine ⟨h.far, ⟨_, hown, ?_⟩, ?_, ?_, hlt⟩
  · intro v hv
    rcases List.mem_append.1 hv with hv | hv
    · obtain ⟨z, e, h0, h1⟩ := hb v hv
      exact ⟨z, e, h0, by omega⟩
    · simp at hv
      rcases hv with rfl | rfl
      · exact ⟨_, rfl, hx.1, by omega⟩
      · exact ⟨_, rfl, hy.1, by omega⟩
  · obtain ⟨p, hp, hrd⟩ := hi.alloc (o := .cells #[.int .i64 x, .int .i64 y] 132)
    refine ⟨p, hp, ?_⟩
    have hR := hb2.block R hlt
    refine ⟨(World.cell?_of_block (w := w3.alloc _) hR).trans hrd.c0, (World.cell?_of_block (w := w3.alloc _) hR).trans hrd.c1, (World.frozen?_of_block (w := w3.alloc _) hR).trans hrd.f1, Nat.lt_of_lt_of_le hrd.lt hb2.size, hrd.le, ?_⟩
    rcases hrd.bytes with h0 | ⟨b, off, ha, hbR, hbb, hz⟩
    · exact Or.inl h0
    · rcases h.far with h0 | hf
      · exact Or.inl h0
      · have hbw : b < w0.heap.size := hf _ ha
        refine Or.inr ⟨b, off, ha, hbR, Nat.lt_of_lt_of_le hbb hb2.size, fun j hj => ?_⟩
        obtain ⟨z, hc, hz⟩ := hz j hj
        exact ⟨z, (World.cell?_of_block (w := w3.alloc _) (hb2.block b hbw)).trans hc, hz⟩
  · have h1 := (h.on.trans ho).alloc (.cells #[.int .i64 x, .int .i64 y] 132)
    exact ⟨hb2.os.trans h1.os, hb2.tape.trans h1.tape, hb2.output.trans h1.output, Nat.le_trans h1.size hb2.size, fun i hi hne => (hb2.block i hi).trans (h1.block i hi hne)⟩
theorem MInv.later {w0 w w3 : World} {R K K' m g c : Nat} {a : Option Addr} {len cap : Nat} (h : MInv w0 R K a len cap m g c w) (ho : Only R w w3) (hi : RdX w3 R K' a len cap) : MInv w0 R K' a len cap m g c w3 := by
  obtain ⟨xs, hr, hv⟩ := h.row
  have hg := h.base.1
  have hlt := h.lt
  exact ⟨h.far, ⟨xs, hr.kept ho (Or.inr (by simp [Value.ownBlock]; omega)), hv⟩, hi, h.on.trans ho, h.lt⟩
theorem MInv.set {w0 w : World} {R K m g c : Nat} {a : Option Addr} {len cap : Nat} (h : MInv w0 R K a len cap m g c w) (i : Nat) {x : Int} (h0 : 0 ≤ x) (h1 : x ≤ 1000000) :
    MInv w0 R K a len cap m g c (w.setCell ⟨g, i, none⟩ (.int .i64 x)) := by
  obtain ⟨xs, hr, hv⟩ := h.row
  have hg := h.base.1
  have hlt := h.lt
  have hst := hr.stored i (.int .i64 x)
  refine ⟨h.far, ⟨_, hst.1, hv.set i h0 (by omega)⟩, ?_, ?_, hlt⟩
  · obtain ⟨p, hp, hrd⟩ := h.rd
    refine ⟨p, hp, ?_⟩
    have hb : ∀ k, k < w0.heap.size → (w.setCell ⟨g, i, none⟩ (.int .i64 x)).heap[k]? = w.heap[k]? := fun k hk => blk_setCell_other _ _ _ _ (by simp; omega)
    have hR := hb R hlt
    refine ⟨(World.cell?_of_block (w := w) hR).trans hrd.c0, (World.cell?_of_block (w := w) hR).trans hrd.c1, (World.frozen?_of_block (w := w) hR).trans hrd.f1, by simpa [World.setCell] using hrd.lt, hrd.le, ?_⟩
    rcases hrd.bytes with h0 | ⟨b, off, ha, hbR, hbb, hz⟩
    · exact Or.inl h0
    · rcases h.far with h0 | hf
      · exact Or.inl h0
      · have hbw : b < w0.heap.size := hf _ ha
        refine Or.inr ⟨b, off, ha, hbR, by simpa [World.setCell] using hbb, fun j hj => ?_⟩
        obtain ⟨z, hc, hz⟩ := hz j hj
        exact ⟨z, (World.cell?_of_block (w := w) (hb b hbw)).trans hc, hz⟩
  · exact ⟨h.on.os, h.on.tape, h.on.output, by simpa [World.setCell] using h.on.size, fun k hk hne => (blk_setCell_other _ _ _ _ (by simp; omega)).trans (h.on.block k hk hne)⟩

/-- What l14Marks leaves. -/
def MPost (R K : Nat) (a : Option Addr) (len cap : Nat) (w0 : World) (e : Ending) (w' : World) : Prop :=
  ∃ g m c : Nat, e = .returned (.slice (some ⟨g, 0, none⟩) m c) ∧ 1 ≤ m ∧ m ≤ 4 ∧ m ≤ c ∧ MInv w0 R K a len cap m g c w'
theorem news_two (w : World) (u v : Value) (t : TypeId) : ∀ j x, [u, v][j]? = some x → (w.alloc (.cells #[u, v] t)).cell? (Addr.add ⟨w.heap.size, 0, none⟩ j) = some x :=
  World.news_of_block (blk_alloc_new w (.cells #[u, v] t))

theorem MInv.fromCell {w0 w : World} {R K m g c : Nat} {a : Option Addr} {len cap : Nat} (h : MInv w0 R K a len cap m g c w) (hm : 1 ≤ m) :
    ∃ x : Int, 0 ≤ x ∧ x ≤ 1000000 + 100 * m ∧ ∀ w', Only R w w' → w'.cell? ⟨g, (m - 1) * 2, none⟩ = some (.int .i64 x) := by
  obtain ⟨xs, hr, hv⟩ := h.row
  have hxl := hr.1
  have hg := h.base
  have hlt := h.lt
  obtain ⟨e, h0, h1⟩ := getI_of hv (i := (m - 1) * 2) (by omega)
  refine ⟨getI xs ((m - 1) * 2), h0, h1, fun w' ho => ?_⟩
  exact (World.cell?_of_block (w := w) (ho.block g hg.2 (by simp; omega))).trans ((hr.cellAt _ (by omega)).trans e)
theorem MInv.start {w0 w : World} {R K : Nat} {a : Option Addr} {len cap : Nat} {x : Int} (hfar : len = 0 ∨ ∀ b, a = some b → b.block < w0.heap.size) (ho : Only R w0 w) (hi : RdX w R K a len cap) (hR : R < w0.heap.size) (h0 : 0 ≤ x) (h1 : x ≤ 20) :
    MInv w0 R K a len cap 1 w.heap.size 1 (w.alloc (.cells #[.int .i64 0, .int .i64 x] 132)) := by
  refine ⟨hfar, ⟨[.int .i64 0, .int .i64 x], ?_, ?_⟩, hi.alloc, ho.alloc _, hR⟩
  · exact World.ownsRow_lit w #[.int .i64 0, .int .i64 x] 1 ho.size (by simp [maxLen]) rfl
  · intro v hv
    simp at hv
    rcases hv with rfl | rfl
    · exact ⟨0, rfl, by omega, by omega⟩
    · exact ⟨x, rfl, h0, by omega⟩

set_option maxRecDepth 100000 in
set_option maxHeartbeats 4000000 in
theorem l14Marks_any (R K : Nat) (a : Option Addr) (len cap : Nat) (w : World) (hK : K ≤ 1000000) (h : RdX w R K a len cap) (hfar : len = 0 ∨ ∀ b, a = some b → b.block < w.heap.size) :
    Calls Tryz.prog 95 #[.pointer (some ⟨R, 0, none⟩)] w (MPost R (K + 20) a len cap w) := by
  obtain ⟨i0, hi0, hz0, hz1, hz2⟩ := info_parts infoMark
  have HI := Lib.hid h
  have HO := Lib.hid (Only.refl R w)
  have hRlt := h.lt
  clear h
  go_enter Tryz.func95, Tryz.ntmps95
  go_wp2_with fail
  ((with_reducible refine (pick_atX (by repeat (first | exact HI.out | apply RdX.drewN | apply RdX.drew | apply RdX.alloc)) (by omega) (by omega) (by omega)).mono ?_); rintro e wx ⟨x, rfl, x0, x1, hinv, hon⟩; have hO := (show Only R w _ from (by repeat (first | exact HO.out | exact Only.refl _ _ | apply Only.drewN | apply Only.drew | apply Only.alloc))).trans hon; have Hx := Lib.hid hon; clear HI HO hon; have HI := Lib.hid hinv; have HO := Lib.hid hO; clear hinv hO)
  obtain ⟨w0, rfl⟩ : ∃ w0, w0 = w := ⟨_, rfl⟩
  have HM := Lib.hid (MInv.start hfar HO.out HI.out hRlt x0 (by omega : x ≤ 20))
  have hszx := HO.out.size
  clear HI HO Hx
  go_wp2_with fail
  obtain ⟨w, hw⟩ : ∃ w, w = wx.alloc (.cells #[.int .i64 0, .int .i64 x] 132) := ⟨_, rfl⟩
  obtain ⟨g, hg⟩ : ∃ g, g = wx.heap.size := ⟨_, rfl⟩
  rw [← hw, ← hg] at HM
  rw [← hw, ← hg]
  clear hw hg hszx
  have HI := Lib.hid HM.out.rd
  have HO := Lib.hid (Only.refl R w)
  ((with_reducible refine (pick_atX (by repeat (first | exact HI.out | apply RdX.drewN | apply RdX.drew | apply RdX.alloc)) (by omega) (by omega) (by omega)).mono ?_); rintro e wn ⟨n, rfl, n0, n1, hinv, hon⟩; have hO := (show Only R w _ from (by repeat (first | exact HO.out | exact Only.refl _ _ | apply Only.drewN | apply Only.drew | apply Only.alloc))).trans hon; have Hn := Lib.hid hon; clear HI HO hon; have HI := Lib.hid hinv; have HO := Lib.hid hO; clear hinv hO)
  have HM2 := Lib.hid (HM.out.later HO.out HI.out)
  clear HI HO HM Hn
  go_wp2_with fail
  go_loopw [3, 4] (fun o n wr => ∃ j m g c : Nat, n = .int .i64 j ∧ j + m ≤ 4 ∧ 1 ≤ m ∧ o = .slice (some ⟨g, 0, none⟩) m c ∧ MInv w0 R (K + 2 + 2 * m) a len cap m g c wr) (fun _ n _ => (intOf n).toNat)
  case atStart => exact ⟨n.toNat, 1, g, 1, by congr 1; omega, by omega, by omega, rfl, ⟨HM2.out.far, HM2.out.row, HM2.out.rd.mono (by omega), HM2.out.on, HM2.out.lt⟩⟩
  case round =>
    obtain ⟨j, m, g, c, rfl, hjm, hm1, rfl, hmi⟩ := hrel
    clear HM2 w
    obtain ⟨w, rfl⟩ : ∃ w, w = wr := ⟨_, rfl⟩
    have HM := Lib.hid hmi
    clear hmi
    by_cases hj : 0 < j
    · have HI := Lib.hid HM.out.rd
      have HO := Lib.hid (Only.refl R w)
      obtain ⟨f, f0, f1, hcell⟩ := HM.out.fromCell hm1
      have HC := Lib.hid hcell
      have cf := hcell w (Only.refl R w)
      have hgb := HM.out.base
      have hszw := HM.out.on.size
      obtain ⟨xs, hrow, hvals⟩ := HM.out.row
      have HROW := Lib.hid hrow
      have HV := Lib.hid hvals
      clear hcell hrow hvals
      have s1 : IntKind.i64.wrap ((m : Int) - 1) = (m : Int) - 1 := IntWalk.i64_in _ (by omega)
      have s2 : (0 : Int) ≤ (m : Int) - 1 := by omega
      have s3 : (m : Int) - 1 < (m : Int) := by omega
      have s4 : ((m : Int) - 1).toNat = m - 1 := by omega
      have s5 : (1 : Int) ≤ (m : Int) := by omega
      have s6 : 1 ≤ m := by omega
      have s7 : IntKind.i64.wrap (f + 1) = f + 1 := IntWalk.i64_in _ (by omega)
      go_wp2_with fail
      have hl4 : m ≤ 4 := by omega
      go_region_law (first | (go_simp; (go_at_call 25; ((with_reducible refine (pick_atX (n := 30) (by repeat (first | exact HI.out | apply RdX.drewN | apply RdX.drew | apply RdX.alloc)) (by omega) (by omega) (by omega)).mono ?_); rintro e wx ⟨x, rfl, x0, x1, hinv, hon⟩; have hO := (show Only R w _ from (by repeat (first | exact HO.out | exact Only.refl _ _ | apply Only.drewN | apply Only.drew | apply Only.alloc))).trans hon; have Hx := Lib.hid hon; clear HI HO hon; have HI := Lib.hid hinv; have HO := Lib.hid hO; clear hinv hO)); have cf := HC.out _ HO.out; have s8 : IntKind.i64.wrap (f + 1 + x) = f + 1 + x := IntWalk.i64_in _ (by omega)) | (go_simp; (go_at_call 25; ((with_reducible refine (pick_atX (n := 20) (by repeat (first | exact HI.out | apply RdX.drewN | apply RdX.drew | apply RdX.alloc)) (by omega) (by omega) (by omega)).mono ?_); rintro e wy ⟨y, rfl, y0, y1, hinv, hon⟩; have hO := (show Only R w _ from (by repeat (first | exact HO.out | exact Only.refl _ _ | apply Only.drewN | apply Only.drew | apply Only.alloc))).trans hon; have Hy := Lib.hid hon; clear HI HO hon; have HI := Lib.hid hinv; have HO := Lib.hid hO; clear hinv hO)); have cf := HC.out _ HO.out) | (refine step_append_lies _ rfl (.tmp 15) (.tmp 30) 87 rfl w0.heap.size 132 i0 (.agg #[.int .i64 0, .int .i64 0]) 2 16 Tryz.underlying87 hi0 hz0 hz1 hz2 rfl (by decide) (.slice (some ⟨g, 0, none⟩) m c) m xs (by simp [Act.eval]) ((HROW.out.kept HO.out (Or.inr (by simp [Value.ownBlock]; omega))).kept (World.grownBy_alloc _ _ none) (Or.inr (by simp [Value.ownBlock]))) ⟨wy.heap.size, 0, none⟩ 1 1 [.int .i64 (f + 1 + x), .int .i64 y] (by simp [Act.eval]) rfl (news_two _ _ _ _) (by simp [Value.oneCell']) (by decide) (by unfold maxLen; omega) (by omega) (by have := HO.out.size; simp; omega) (wy.heap.size + 1) (by simp) ?_; intro g' c' w4 hown hgrow hat hlt4; have HW4 := Lib.hid (HM.out.push hm1 HO.out HI.out HV.out ⟨by omega, by omega⟩ ⟨by omega, by omega⟩ hown hgrow); clear hown hgrow hat))
      all_goals
        go_wp2_with fail
        go_roundw
        case rel => exact ⟨j - 1, m + 1, g', c', by congr 1; omega, by omega, by omega, rfl, ⟨HW4.out.far, HW4.out.row, HW4.out.rd.mono (by omega), HW4.out.on, HW4.out.lt⟩⟩
        case measure => simp [intOf]; omega
    · have HI := Lib.hid HM.out.rd
      have HO := Lib.hid (Only.refl R w)
      go_wp2_with fail
      ((with_reducible refine (pick_atX (by repeat (first | exact HI.out | apply RdX.drewN | apply RdX.drew | apply RdX.alloc)) (by omega) (by omega) (by omega)).mono ?_); rintro e wy ⟨y, rfl, y0, y1, hinv, hon⟩; have hO := (show Only R w _ from (by repeat (first | exact HO.out | exact Only.refl _ _ | apply Only.drewN | apply Only.drew | apply Only.alloc))).trans hon; have Hy := Lib.hid hon; clear HI HO hon; have HI := Lib.hid hinv; have HO := Lib.hid hO; clear hinv hO)
      have HM2 := Lib.hid (HM.out.later HO.out HI.out)
      have hm4 : m ≤ 4 := by omega
      have hmc : m ≤ c := by
        obtain ⟨xs, hr, _⟩ := HM.out.row
        rcases hr.2 with h | ⟨g2, c2, cur, h, _, _, h2, _⟩
        · cases h.1
        · simp only [Value.slice.injEq] at h; omega
      obtain ⟨xs, hrow, hvals⟩ := HM2.out.row
      have hxl := hrow.1
      obtain ⟨hge, _, _⟩ := getI_of hvals (i := (m - 1) * 2 + 1) (by omega)
      have cf := (hrow.cellAt ((m - 1) * 2 + 1) (by omega)).trans hge
      have ff := hrow.frozenAt ((m - 1) * 2 + 1)
      clear HI HO HM Hy hrow hvals hge hxl
      by_cases hy : y = 0
      · have s1 : IntKind.i64.wrap ((m : Int) - 1) = (m : Int) - 1 := IntWalk.i64_in _ (by omega)
        have s2 : (0 : Int) ≤ (m : Int) - 1 := by omega
        have s3 : (m : Int) - 1 < (m : Int) := by omega
        have s4 : ((m : Int) - 1).toNat = m - 1 := by omega
        have s5 : (1 : Int) ≤ (m : Int) := by omega
        have s6 : 1 ≤ m := by omega
        have HM3 := Lib.hid (HM2.out.set ((m - 1) * 2 + 1) (x := 1000000) (by omega) (by omega))
        go_wp2_with fail
        go_ret
        exact ⟨g, m, c, rfl, hm1, hm4, hmc, ⟨HM3.out.far, HM3.out.row, HM3.out.rd.mono (by omega), HM3.out.on, HM3.out.lt⟩⟩
      · go_wp2_with fail
        go_ret
        exact ⟨g, m, c, rfl, hm1, hm4, hmc, ⟨HM2.out.far, HM2.out.row, HM2.out.rd.mono (by omega), HM2.out.on, HM2.out.lt⟩⟩


end My
end Go.Proofs.YtjmlekhgnbbjoaaGreatDoor
