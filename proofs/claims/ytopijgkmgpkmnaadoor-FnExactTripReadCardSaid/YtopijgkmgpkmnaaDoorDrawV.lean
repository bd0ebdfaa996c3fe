/- The drawing function of words, whole. -/
import Derived.Test.YtopijgkmgpkmnaaDoorDrawW
namespace Go.Proofs.YtopijgkmgpkmnaaDoor
open Go.RowKit Go.Deep
set_option linter.unusedVariables false
namespace My

/-- What DrawWirePut leaves. -/
def WordsPost (w : World) (e : Ending) (w' : World) : Prop :=
  ∃ (g n c : Nat) (F : Nat → ByteArray), e = .returned (.slice (some ⟨g, 0, none⟩) n c) ∧ n ≤ 50 ∧ n ≤ c ∧ OwnT w' g n F ∧ (∀ i, i < n → (F i).size ≤ 6000) ∧ w.heap.size ≤ g ∧ Below w.heap.size w w'
theorem words_post {wB w w' : World} {R K m g c : Nat} {a : Option Addr} {len cap : Nat} (hm : SInv w R K a len cap m g c w') (hR : R = wB.heap.size) (hb : Below wB.heap.size wB w) (m1 : m ≤ 50) :
    WordsPost wB (.returned (.slice (some ⟨g, 0, none⟩) m c)) w' := by
  obtain ⟨F, ho, hF, hc⟩ := hm.own
  have h1 := hm.base.1
  have h2 := hb.size
  exact ⟨g, m, c, F, rfl, m1, hc, ho, hF, by omega, drawn_below hR hb hm.on⟩
theorem rdX_ofS {w : World} {R K : Nat} (h : RdInv w R K) : ∃ a len cap, RdX w R K a len cap ∧ (len = 0 ∨ ∀ b, a = some b → b.block < w.heap.size) := by
  obtain ⟨p, a, len, cap, hp, hr⟩ := h
  refine ⟨a, len, cap, ⟨p, hp, hr⟩, ?_⟩
  rcases hr.bytes with h0 | ⟨b, off, rfl, _, hb, _⟩
  · exact Or.inl h0
  · exact Or.inr (fun b' hb' => by cases hb'; exact hb)
theorem news_str (w : World) (v : Value) (t : TypeId) : ∀ j u, [v][j]? = some u → (w.alloc (.cells #[v] t)).cell? (Addr.add ⟨w.heap.size, 0, none⟩ j) = some u :=
  World.news_of_block (blk_alloc_new w (.cells #[v] t))

set_option maxRecDepth 100000 in
set_option maxHeartbeats 4000000 in
theorem DrawWirePut_any (a : Option Addr) (len cap : Nat) (wB : World) (h : BytesIn wB a len cap) :
    Calls Tryd.prog 17 #[.slice a len cap] wB (WordsPost wB) := by
  obtain ⟨i0, hi0, hz0, hz1, hz2⟩ := info_parts infoStr
  have hmany : ∀ (x : Int) (w : World), 0 ≤ x → x < 9 → Calls Tryd.prog 48 #[.string ⟨#[116]⟩, .int .i64 (6000 - x)] w fun e w' => ∃ t : ByteArray, e = .returned (.string t) ∧ t.size ≤ 6000 ∧ w = w' := by
    intro x w x0 x1
    have h := l1Many_any ⟨#[116]⟩ (6000 - x.toNat) (1 * (6000 - x.toNat)) w rfl (by omega) (by omega)
    rw [show ((6000 - x.toNat : Nat) : Int) = 6000 - x from by omega] at h
    refine h.mono ?_
    rintro e w' ⟨t, rfl, ht, rfl⟩
    exact ⟨t, rfl, by omega, rfl⟩
  have HMANY := Lib.hid hmany
  clear hmany
  go_enter Tryd.func17, Tryd.ntmps17
  go_wp2_with fail
  refine (l1Open_any _ _ _ _ h).mono ?_
  rintro e w ⟨rfl, hi, hb⟩
  obtain ⟨R, hR⟩ : ∃ R, R = wB.heap.size := ⟨_, rfl⟩
  rw [← hR] at hi ⊢
  have HRR := Lib.hid hR
  have HB := Lib.hid hb
  obtain ⟨a1, len1, cap1, hx, hf⟩ := rdX_ofS hi
  have hRlt := hi.lt
  have HST := Lib.hid (SInv.start hf (Only.refl R w) hx hRlt)
  clear hi hb hR hx hf
  go_wp2_with fail
  obtain ⟨w0, rfl⟩ : ∃ w0, w0 = w := ⟨_, rfl⟩
  obtain ⟨w, hw⟩ : ∃ w, w = w0.alloc (.cells #[] 9) := ⟨_, rfl⟩
  obtain ⟨g, hg⟩ : ∃ g, g = w0.heap.size := ⟨_, rfl⟩
  have HM := HST
  clear HST
  rw [← hw, ← hg] at HM
  rw [← hw, ← hg]
  clear hw
  have HG := Lib.hid hg
  clear hg
  have HI := Lib.hid HM.out.rd
  have HO := Lib.hid (Only.refl R w)
  ((with_reducible refine (pick_atX (by repeat (first | exact HI.out | apply RdX.drewN | apply RdX.drew | apply RdX.alloc)) (by omega) (by omega) (by omega)).mono ?_); rintro e wn ⟨n, rfl, n0, n1, hinv, hon⟩; have hO := (show Only R w _ from (by repeat (first | exact HO.out | exact Only.refl _ _ | apply Only.drewN | apply Only.drew | apply Only.alloc))).trans hon; have Hn := Lib.hid hon; clear HI HO hon; have HI := Lib.hid hinv; have HO := Lib.hid hO; clear hinv hO)
  go_wp2_with fail
  ((with_reducible refine (pick_atX (by repeat (first | exact HI.out | apply RdX.drewN | apply RdX.drew | apply RdX.alloc)) (by omega) (by omega) (by omega)).mono ?_); rintro e wy ⟨y, rfl, y0, y1, hinv, hon⟩; have hO := (show Only R w _ from (by repeat (first | exact HO.out | exact Only.refl _ _ | apply Only.drewN | apply Only.drew | apply Only.alloc))).trans hon; have Hy := Lib.hid hon; clear HI HO hon; have HI := Lib.hid hinv; have HO := Lib.hid hO; clear hinv hO)
  have HM2 := Lib.hid (HM.out.later HO.out HI.out)
  clear HI HO HM Hn Hy
  go_upto_if 13 with fail
  go_cut [5] from 11 to 16 (fun v wx => ∃ j : Nat, v = .int .i64 j ∧ j ≤ 41 ∧ SInv w0 R 3 a1 len1 cap1 0 g 0 wx)
  case first =>
    by_cases hy : y = 0
    · obtain ⟨w, rfl⟩ : ∃ w, w = wy := ⟨_, rfl⟩
      have HI := Lib.hid HM2.out.rd
      have HO := Lib.hid (Only.refl R w)
      go_wp2_with fail
      ((with_reducible refine (pick_atX (by repeat (first | exact HI.out | apply RdX.drewN | apply RdX.drew | apply RdX.alloc)) (by omega) (by omega) (by omega)).mono ?_); rintro e wz ⟨z, rfl, z0, z1, hinv, hon⟩; have hO := (show Only R w _ from (by repeat (first | exact HO.out | exact Only.refl _ _ | apply Only.drewN | apply Only.drew | apply Only.alloc))).trans hon; have Hz := Lib.hid hon; clear HI HO hon; have HI := Lib.hid hinv; have HO := Lib.hid hO; clear hinv hO)
      go_wp2_with fail
      go_meet
      exact ⟨(40 + z).toNat, by congr 1; omega, by omega, (HM2.out.later HO.out HI.out).mono (by omega)⟩
    · go_wp2_with fail
      go_meet
      exact ⟨n.toNat, by congr 1; omega, by omega, HM2.out.mono (by omega)⟩
  case rest =>
    obtain ⟨j0, rfl, hj0, hm0⟩ := hcut
    have HM3 := Lib.hid hm0
    clear HM2 hm0
    go_wp2_with fail
    go_loopw [4, 5] (fun o n wr => ∃ j m g c : Nat, n = .int .i64 j ∧ j + m ≤ 41 ∧ o = .slice (some ⟨g, 0, none⟩) m c ∧ SInv w0 R (3 + m) a1 len1 cap1 m g c wr) (fun _ n _ => (intOf n).toNat)
    case atStart => exact ⟨j0, 0, g, 0, rfl, by omega, rfl, HM3.out⟩
    case round =>
      obtain ⟨j, m, g, c, rfl, hjm, rfl, hmi⟩ := hrel
      clear HM3
      obtain ⟨w, rfl⟩ : ∃ w, w = wr := ⟨_, rfl⟩
      have HM := Lib.hid hmi
      have hgb := hmi.base
      have hszw := hmi.on.size
      clear hmi
      by_cases hj : 0 < j
      · obtain ⟨xs, hrow, hvals⟩ := HM.out.row
        have HROW := Lib.hid hrow
        have HV := Lib.hid hvals
        clear hrow hvals
        go_wp2_with fail
        refine (of_at (q := 6000) (HM.out.rd.alloc) (by omega) w.heap.size 5 5 (by omega) (by omega) (by omega) (by omega) (by simp) ?_).mono ?_
        · intro i hi
          have hb := blk_alloc_new w (.cells #[.string ⟨#[]⟩, .string ⟨#[97]⟩, .string ⟨#[49, 58, 120, 44]⟩, .string ⟨#[116, 119, 111, 32, 119, 111, 114, 100, 115]⟩, .string ⟨#[44]⟩] 9)
          have : i = 0 ∨ i = 1 ∨ i = 2 ∨ i = 3 ∨ i = 4 := by omega
          rcases this with rfl | rfl | rfl | rfl | rfl
          all_goals
            refine ⟨_, by simp only [World.cell?, hb]; rfl, _, rfl, ?_⟩
            decide
        rintro e w1 ⟨s, rfl, hs, hr1, ho1⟩
        have HI := Lib.hid hr1
        have HO := Lib.hid (((Only.refl R w).alloc _).trans ho1)
        have hsz1 := HO.out.size
        clear hr1 ho1
        go_wp2_with (at_builtin; go_loud (refine wpList_append_lies _ rfl (.tmp 21) (.tmp 25) 22 rfl w0.heap.size 9 i0 (.string ⟨#[]⟩) 1 16 Tryd.underlying22 hi0 hz0 hz1 hz2 rfl (by decide) (.slice (some ⟨g, 0, none⟩) m c) m xs rfl ((HROW.out.kept HO.out (Or.inr (by simp [Value.ownBlock]; omega))).kept (World.grownBy_alloc _ _ none) (Or.inr (by simp [Value.ownBlock]))) ⟨w1.heap.size, 0, none⟩ 1 1 [.string s] rfl rfl (news_str _ _ _) (by simp [Value.oneCell']) (by decide) (by unfold maxLen; omega) (by omega) (by simp; omega) (w1.heap.size + 1) (by simp) ?_; intro g' c' w4 hown hgrow hat hlt4; have HW4 := Lib.hid (HM.out.push HO.out HI.out HV.out hs hown hgrow); clear hown hgrow hat))
        go_roundw
        case rel => exact ⟨j - 1, m + 1, g', c', by congr 1; omega, by omega, rfl, HW4.out.mono (by omega)⟩
        case measure => simp [intOf]; omega
      · have HI := Lib.hid HM.out.rd
        have HO := Lib.hid (Only.refl R w)
        go_wp2_with fail
        ((with_reducible refine (pick_atX (by repeat (first | exact HI.out | apply RdX.drewN | apply RdX.drew | apply RdX.alloc)) (by omega) (by omega) (by omega)).mono ?_); rintro e wz ⟨z, rfl, z0, z1, hinv, hon⟩; have hO := (show Only R w _ from (by repeat (first | exact HO.out | exact Only.refl _ _ | apply Only.drewN | apply Only.drew | apply Only.alloc))).trans hon; have Hz := Lib.hid hon; clear HI HO hon; have HI := Lib.hid hinv; have HO := Lib.hid hO; clear hinv hO)
        have HM2 := Lib.hid (HM.out.later HO.out HI.out)
        clear HI HO HM Hz
        by_cases hz : z = 0
        · obtain ⟨w, rfl⟩ : ∃ w, w = wz := ⟨_, rfl⟩
          have HI := Lib.hid HM2.out.rd
          have HO := Lib.hid (Only.refl R w)
          obtain ⟨xs, hrow, hvals⟩ := HM2.out.row
          have HROW := Lib.hid hrow
          have HV := Lib.hid hvals
          have hszw := HM2.out.on.size
          clear hrow hvals
          go_wp2_with fail
          ((with_reducible refine (pick_atX (by repeat (first | exact HI.out | apply RdX.drewN | apply RdX.drew | apply RdX.alloc)) (by omega) (by omega) (by omega)).mono ?_); rintro e wx ⟨x, rfl, x0, x1, hinv, hon⟩; have hO := (show Only R w _ from (by repeat (first | exact HO.out | exact Only.refl _ _ | apply Only.drewN | apply Only.drew | apply Only.alloc))).trans hon; have Hx := Lib.hid hon; clear HI HO hon; have HI := Lib.hid hinv; have HO := Lib.hid hO; clear hinv hO)
          go_wp2_with fail
          refine (HMANY.out x _ x0 x1).mono ?_
          rintro e w9 ⟨s, rfl, hs, rfl⟩
          have hszx := HO.out.size
          go_wp2_with (at_builtin; go_loud (refine wpList_append_lies _ rfl (.tmp 30) (.tmp 35) 22 rfl w0.heap.size 9 i0 (.string ⟨#[]⟩) 1 16 Tryd.underlying22 hi0 hz0 hz1 hz2 rfl (by decide) (.slice (some ⟨g, 0, none⟩) m c) m xs rfl ((HROW.out.kept HO.out (Or.inr (by simp [Value.ownBlock]; omega))).kept (World.grownBy_alloc _ _ none) (Or.inr (by simp [Value.ownBlock]))) ⟨wx.heap.size, 0, none⟩ 1 1 [.string s] rfl rfl (news_str _ _ _) (by simp [Value.oneCell']) (by decide) (by unfold maxLen; omega) (by omega) (by simp; omega) (wx.heap.size + 1) (by simp) ?_; intro g' c' w4 hown hgrow hat hlt4; have HW4 := Lib.hid (HM2.out.push HO.out HI.out HV.out hs hown hgrow); clear hown hgrow hat))
          go_ret
          exact words_post HW4.out HRR.out HB.out (by omega)
        · go_wp2_with fail
          go_ret
          exact words_post HM2.out HRR.out HB.out (by omega)

end My
end Go.Proofs.YtopijgkmgpkmnaaDoor
