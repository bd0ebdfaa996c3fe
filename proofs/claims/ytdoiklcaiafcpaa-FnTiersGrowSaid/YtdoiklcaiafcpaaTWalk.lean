/- The drawing function of a number and marks; the walk of FnTiersGrow. -/
import Derived.Test.YtdoiklcaiafcpaaTMarks
namespace Go.Proofs.Ytdoiklcaiafcpaa
open Go.RowKit Go.Deep
set_option linter.unusedVariables false
namespace My

theorem rdX_ofM {w : World} {R K : Nat} (h : RdInv w R K) : ∃ a len cap, RdX w R K a len cap ∧ (len = 0 ∨ ∀ b, a = some b → b.block < w.heap.size) := by
  obtain ⟨p, a, len, cap, hp, hr⟩ := h
  refine ⟨a, len, cap, ⟨p, hp, hr⟩, ?_⟩
  rcases hr.bytes with h0 | ⟨b, off, rfl, _, hb, _⟩
  · exact Or.inl h0
  · exact Or.inr (fun b' hb' => by cases hb'; exact hb)
theorem MInv.cap {w0 w : World} {R K m g c : Nat} {a : Option Addr} {len cap : Nat} (h : MInv w0 R K a len cap m g c w) (hm : 1 ≤ m) : m ≤ c := by
  obtain ⟨xs, hr, _⟩ := h.row
  rcases hr.2 with h | ⟨g2, c2, cur, h, _, _, h2, _⟩
  · cases h.1
  · simp only [Value.slice.injEq] at h; omega
/-- A number and marks. -/
def TiersPost (w : World) (e : Ending) (w' : World) : Prop :=
  ∃ (n : Int) (g c : Nat) (ms : List (Int × Int)), e = .returned (.tuple #[.int .i64 n, .slice (some ⟨g, 0, none⟩) ms.length c]) ∧ -1 ≤ n ∧ n ≤ 1000000000001 ∧ 1 ≤ ms.length ∧ ms.length ≤ 4 ∧ ms.length ≤ c ∧ MarksAt w' g 0 ms ∧ Below w.heap.size w w'
theorem tiers_post {wB w w' : World} {R K m g c : Nat} {a : Option Addr} {len cap : Nat} {n : Int} (hm : MInv w R K a len cap m g c w') (hR : R = wB.heap.size) (hb : Below wB.heap.size wB w) (n0 : -1 ≤ n) (n1 : n ≤ 1000000000001) (m1 : 1 ≤ m) (m4 : m ≤ 4) :
    TiersPost wB (.returned (.tuple #[.int .i64 n, .slice (some ⟨g, 0, none⟩) m c])) w' := by
  have hc := hm.cap m1
  have hg := hm.base.2
  obtain ⟨xs, hr, hv⟩ := hm.row
  have hl : (msOf xs m).length = m := by simp [msOf]
  exact ⟨n, g, c, msOf xs m, by rw [hl], n0, n1, by omega, by omega, by omega, msOf_at hr hv hg, drawn_below hR hb hm.on⟩

set_option maxRecDepth 100000 in
set_option maxHeartbeats 4000000 in
theorem DrawTiersOf_any (a : Option Addr) (len cap : Nat) (wB : World) (h : BytesIn wB a len cap) :
    Calls Try.prog 25 #[.slice a len cap] wB (TiersPost wB) := by
  go_enter Try.func25, Try.ntmps25
  go_wp2_with fail
  refine (l1Open_any _ _ _ _ h).mono ?_
  rintro e w ⟨rfl, hi, hb⟩
  obtain ⟨R, hR⟩ : ∃ R, R = wB.heap.size := ⟨_, rfl⟩
  rw [← hR] at hi ⊢
  have HRR := Lib.hid hR
  have HB := Lib.hid hb
  obtain ⟨a1, len1, cap1, hx, hf⟩ := rdX_ofM hi
  have HX := Lib.hid hx
  have HF := Lib.hid hf
  clear hi hb hR hx hf
  go_wp2_with fail
  refine (l14Marks_any R _ a1 len1 cap1 w (by omega) HX.out HF.out).mono ?_
  rintro e w2 ⟨g, m, c, rfl, hm1, hm4, hmc, hmi⟩
  have HM := Lib.hid hmi
  clear hmi HX HF
  obtain ⟨w0, rfl⟩ : ∃ w0, w0 = w := ⟨_, rfl⟩
  obtain ⟨w, rfl⟩ : ∃ w, w = w2 := ⟨_, rfl⟩
  have HI := Lib.hid HM.out.rd
  have HO := Lib.hid (Only.refl R w)
  go_wp2_with fail
  ((with_reducible refine (pick_atX (by repeat (first | exact HI.out | apply RdX.drewN | apply RdX.drew | apply RdX.alloc)) (by omega) (by omega) (by omega)).mono ?_); rintro e wy ⟨y, rfl, y0, y1, hinv, hon⟩; have hO := (show Only R w _ from (by repeat (first | exact HO.out | exact Only.refl _ _ | apply Only.drewN | apply Only.drew | apply Only.alloc))).trans hon; have Hy := Lib.hid hon; clear HI HO hon; have HI := Lib.hid hinv; have HO := Lib.hid hO; clear hinv hO)
  have HM2 := Lib.hid (HM.out.later HO.out HI.out)
  clear HI HO HM Hy
  by_cases hy : y = 0
  · obtain ⟨xs, hrow, hvals⟩ := HM2.out.row
    have hxl := hrow.1
    obtain ⟨hge, _, _⟩ := getI_of hvals (i := 0) (by omega)
    have cf := (hrow.cellAt 0 (by omega)).trans hge
    have ff := hrow.frozenAt 0
    have s1 : (0 : Int) < (m : Int) := by omega
    have s2 : 0 < m := by omega
    have HM3 := Lib.hid (HM2.out.set 0 (x := 1) (by omega) (by omega))
    clear hrow hvals hge hxl
    obtain ⟨w, hw⟩ : ∃ w, w = wy.setCell ⟨g, 0, none⟩ (.int .i64 1) := ⟨_, rfl⟩
    rw [← hw] at HM3
    go_wp2_with fail
    rw [← hw]
    clear hw cf ff HM2
    have HI := Lib.hid HM3.out.rd
    have HO := Lib.hid (Only.refl R w)
    ((with_reducible refine (pick_atX (by repeat (first | exact HI.out | apply RdX.drewN | apply RdX.drew | apply RdX.alloc)) (by omega) (by omega) (by omega)).mono ?_); rintro e wu ⟨u, rfl, u0, u1, hinv, hon⟩; have hO := (show Only R w _ from (by repeat (first | exact HO.out | exact Only.refl _ _ | apply Only.drewN | apply Only.drew | apply Only.alloc))).trans hon; have Hu := Lib.hid hon; clear HI HO hon; have HI := Lib.hid hinv; have HO := Lib.hid hO; clear hinv hO)
    go_wp2_with fail
    have HL := Lib.hid HI.out.lt
    ((with_reducible refine (pick_atX (by repeat (first | exact HI.out | apply RdX.drewN | apply RdX.drew | apply RdX.alloc)) (by omega) (by omega) (by omega)).mono ?_); rintro e wv ⟨v, rfl, v0, v1, hinv, hon⟩; have hO := (show Only R w _ from (by repeat (first | exact HO.out | exact Only.refl _ _ | apply Only.drewN | apply Only.drew | apply Only.alloc))).trans hon; have Hv := Lib.hid hon; clear HI HO hon; have HI := Lib.hid hinv; have HO := Lib.hid hO; clear hinv hO)
    have hv5 : IntKind.i64.wrap (v * 5) = v * 5 := IntWalk.i64_in _ (by omega)
    have hv0 : 0 ≤ v * 5 / 12 := by omega
    have hv1 : v * 5 / 12 < 5 := by omega
    obtain ⟨z, hz, q, rfl, q0, q1⟩ := pick_cell (x := v * 5 / 12) (IntIn (-1) 1000000000001) Hv.out HL.out (by
      intro z hz
      simp at hz
      rcases hz with rfl | rfl | rfl | rfl | rfl
      all_goals exact ⟨_, rfl, by omega, by omega⟩) (by omega) (by simp; omega)
    have HM4 := Lib.hid (HM3.out.later HO.out HI.out)
    go_wp2_with fail
    go_ret2
    exact tiers_post HM4.out HRR.out HB.out q0 q1 hm1 hm4
  · obtain ⟨w, rfl⟩ : ∃ w, w = wy := ⟨_, rfl⟩
    have HI := Lib.hid HM2.out.rd
    have HO := Lib.hid (Only.refl R w)
    go_wp2_with fail
    ((with_reducible refine (pick_atX (by repeat (first | exact HI.out | apply RdX.drewN | apply RdX.drew | apply RdX.alloc)) (by omega) (by omega) (by omega)).mono ?_); rintro e wu ⟨u, rfl, u0, u1, hinv, hon⟩; have hO := (show Only R w _ from (by repeat (first | exact HO.out | exact Only.refl _ _ | apply Only.drewN | apply Only.drew | apply Only.alloc))).trans hon; have Hu := Lib.hid hon; clear HI HO hon; have HI := Lib.hid hinv; have HO := Lib.hid hO; clear hinv hO)
    go_wp2_with fail
    have HL := Lib.hid HI.out.lt
    ((with_reducible refine (pick_atX (by repeat (first | exact HI.out | apply RdX.drewN | apply RdX.drew | apply RdX.alloc)) (by omega) (by omega) (by omega)).mono ?_); rintro e wv ⟨v, rfl, v0, v1, hinv, hon⟩; have hO := (show Only R w _ from (by repeat (first | exact HO.out | exact Only.refl _ _ | apply Only.drewN | apply Only.drew | apply Only.alloc))).trans hon; have Hv := Lib.hid hon; clear HI HO hon; have HI := Lib.hid hinv; have HO := Lib.hid hO; clear hinv hO)
    have hv5 : IntKind.i64.wrap (v * 5) = v * 5 := IntWalk.i64_in _ (by omega)
    have hv0 : 0 ≤ v * 5 / 12 := by omega
    have hv1 : v * 5 / 12 < 5 := by omega
    obtain ⟨z, hz, q, rfl, q0, q1⟩ := pick_cell (x := v * 5 / 12) (IntIn (-1) 1000000000001) Hv.out HL.out (by
      intro z hz
      simp at hz
      rcases hz with rfl | rfl | rfl | rfl | rfl
      all_goals exact ⟨_, rfl, by omega, by omega⟩) (by omega) (by simp; omega)
    have HM4 := Lib.hid (HM2.out.later HO.out HI.out)
    go_wp2_with fail
    go_ret2
    exact tiers_post HM4.out HRR.out HB.out q0 q1 hm1 hm4

theorem tofV_bd {n : Int} {ms : List (Int × Int)} (h : tofB n ms = true) : 0 ≤ tofV n ms ∧ tofV n ms ≤ 1000000000000 := by
  simp only [tofV, h, if_true]
  simp only [tofB, tofG, Bool.and_eq_true] at h
  have hm := h.1.2
  refine ⟨sumI_nn hm n _, ?_⟩
  have hl : 0 < ms.length := by
    simp only [marksB, Bool.and_eq_true] at hm
    have := inB_true hm.1.2
    omega
  have hall := h.2
  simp only [tierB, List.all_eq_true] at hall
  have := hall (ms.length - 1) (by simp; omega)
  simp only [okT, Bool.and_eq_true, decide_eq_true_eq] at this
  rw [show ms.length - 1 + 1 = ms.length from by omega] at this
  exact this.2
theorem tofV_0 {n : Int} {ms : List (Int × Int)} (h : tofB n ms = false) : tofV n ms = 0 := by simp [tofV, h]
theorem tofB_n {n : Int} {ms : List (Int × Int)} (h : tofB n ms = true) : (0 ≤ n ∧ n ≤ 1000000000000) ∧ marksB ms = true := by
  simp only [tofB, tofG, Bool.and_eq_true] at h
  exact ⟨inB_true h.1.1, h.1.2⟩

set_option maxHeartbeats 4000000 in
theorem FnTiersGrow_walk (a0 : Option Addr) (len0 cap0 : Nat) (z0 : Unit) (w : World) (h : BytesIn w a0 len0 cap0) :
    Calls Try.prog 11 #[.slice a0 len0 cap0] w fun e w' => e = .returned (.bool true) ∧ Below w.heap.size w w' := by
  have H := Lib.hid h
  have HB0 := Lib.hid (Below.refl w.heap.size w)
  have h2 := h.2.1
  unfold maxLen at h2
  have h1 := h.1
  clear h
  by_cases hs : 1048576 < len0
  · go_enter Try.func11, Try.ntmps11
    go_wp2_with fail
    go_ret
    exact ⟨rfl, HB0.out⟩
  · go_enter Try.func11, Try.ntmps11
    go_wp2_with fail
    refine (DrawTiersOf_any _ _ _ _ H.out).mono ?_
    rintro e w1 ⟨n, g, c, ms, rfl, n0, n1, hl1, hl4, hlc, hm, hb⟩
    have HM := Lib.hid hm
    have HB1 := Lib.hid hb
    clear hm hb
    go_wp2_with fail
    refine (iTiersOf_some n g 0 c ms w1 HM.out (by omega) hlc).mono ?_
    rintro e w2 ⟨rfl, b2⟩
    have HM2 := Lib.hid (HM.out.below b2 (Nat.le_refl _))
    have HB2 := Lib.hid (bT HB1.out b2)
    clear b2
    go_wp2_with fail
    refine (sTiersOf_some n g 0 c ms w2 HM2.out (by omega) hlc).mono ?_
    rintro e w3 ⟨rfl, b3⟩
    have HM3 := Lib.hid (HM2.out.below b3 (Nat.le_refl _))
    have HB3 := Lib.hid (bT HB2.out b3)
    clear b3
    cases hok : tofB n ms
    · have h0 := tofV_0 hok
      rw [h0]
      clear h0
      go_wp2_with fail
      go_ret
      exact ⟨rfl, HB3.out⟩
    · obtain ⟨v0, v1⟩ := tofV_bd hok
      obtain ⟨⟨m0, m1⟩, hmb⟩ := tofB_n hok
      have HMB := Lib.hid hmb
      have HOK := Lib.hid hok
      clear hmb
      obtain ⟨x, hx⟩ : ∃ x, x = tofV n ms := ⟨_, rfl⟩
      rw [← hx] at v0 v1 ⊢
      have HX := Lib.hid hx
      clear hx
      go_wp2_with fail
      go_loop [9, 10] (fun p i => ∃ k : Nat, k ≤ ms.length ∧ i = .int .i64 k ∧ p = .int .i64 (priceTo n ms k)) (fun _ i => ms.length - (intOf i).toNat)
      case atStart => exact ⟨0, Nat.zero_le _, rfl, rfl⟩
      case round =>
        obtain ⟨k, hk, rfl, rfl⟩ := hrel
        by_cases hlt : k < ms.length
        · have cf := HM3.out.f k hlt
          have cp := HM3.out.p k hlt
          rw [Nat.zero_add] at cf cp
          have x1 : (k : Int) < (ms.length : Int) := by omega
          by_cases hle : mF ms k ≤ n
          · have HP : Hid (priceTo n ms (k + 1) = mP ms k) := by show priceTo n ms (k + 1) = mP ms k; rw [priceTo, if_pos hle]
            go_wp2_with fail
            go_round
            case rel => exact ⟨k + 1, by omega, by go_num, by rw [HP.out]⟩
            case measure => simp [intOf]; omega
          · have HP : Hid (priceTo n ms (k + 1) = priceTo n ms k) := by show priceTo n ms (k + 1) = priceTo n ms k; rw [priceTo, if_neg hle]
            go_wp2_with fail
            go_round
            case rel => exact ⟨k + 1, by omega, by go_num, by rw [HP.out]⟩
            case measure => simp [intOf]; omega
        · have e : k = ms.length := by omega
          subst e
          obtain ⟨p0, p1⟩ := price_bd HMB.out n ms.length
          have HG : Hid (tofB (n + 1) ms = true → tofV (n + 1) ms = x + priceTo n ms ms.length) := by
            show _ → _
            intro h'
            rw [HX.out]; exact grow_law HOK.out h'
          obtain ⟨p, hp⟩ : ∃ p, p = priceTo n ms ms.length := ⟨_, rfl⟩
          rw [← hp] at HG p0 p1 ⊢
          clear hp
          go_wp2_with fail
          refine (iTiersOf_some (n + 1) g 0 c ms w3 HM3.out (by omega) hlc).mono ?_
          rintro e w4 ⟨rfl, b4⟩
          have HB4 := Lib.hid (bT HB3.out b4)
          clear b4
          cases hok2 : tofB (n + 1) ms
          · go_wp2_with fail
            go_ret
            exact ⟨rfl, HB4.out⟩
          · have e := HG.out hok2
            rw [e]
            clear e
            go_wp2_with fail
            go_ret
            exact ⟨rfl, HB4.out⟩

end My
end Go.Proofs.Ytdoiklcaiafcpaa
