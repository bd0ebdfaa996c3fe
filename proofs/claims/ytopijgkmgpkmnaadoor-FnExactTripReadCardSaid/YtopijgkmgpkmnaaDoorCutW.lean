/- Texts that are cut: the reference's l3Cut, the library's Split and the program's clone. -/
import Derived.Test.YtopijgkmgpkmnaaDoorCutP
import Derived.Test.YtopijgkmgpkmnaaDoorMonX
namespace Go.Proofs.YtopijgkmgpkmnaaDoor
open Go.RowKit Go.Deep
set_option linter.unusedVariables false
namespace My

/-- The pieces as strings. -/
def pcs (L : List (List UInt8)) (i : Nat) : ByteArray := txt (L.getD i [])
structure LoopC (W : World) (c : UInt8) (T : List UInt8) (k fr i : Nat) (l : Value) (F : Nat → ByteArray) (w' : World) : Prop where
  own : w'.ownsRow W.heap.size 9 1 l k (strsOf F k)
  cut : cutL c T = (List.range k).map (fun i => (F i).data.toList) ++ cutL c (T.drop fr)
  noc : ∀ x ∈ (T.drop fr).take (i - fr), x ≠ c
  b : Below W.heap.size W w'
  sl : ∃ g cc, l = .slice (some ⟨g, 0, none⟩) k cc
theorem LoopC.push {W w w' : World} {c : UInt8} {T : List UInt8} {k fr i : Nat} {l : Value} {F : Nat → ByteArray} {s : ByteArray} {g cc : Nat} {o : Obj} (h : LoopC W c T k fr i l F w)
    (hown : w'.ownsRow W.heap.size 9 1 (.slice (some ⟨g, 0, none⟩) (k + 1) cc) (k + 1) (strsOf F k ++ [.string s])) (hgrow : (w.alloc o).grownBy w' l.ownBlock)
    (hfr : fr ≤ i) (hc : T[i]? = some c) (hs : s.data.toList = (T.drop fr).take (i - fr)) : LoopC W c T (k + 1) (i + 1) (i + 1) (.slice (some ⟨g, 0, none⟩) (k + 1) cc) (putF F k s) w' := by
  have hlt := (List.getElem?_eq_some_iff.1 hc).1
  refine ⟨by rw [strsOf_put]; exact hown, ?_, by simp, ?_, g, cc, rfl⟩
  · rw [h.cut, List.range_succ, List.map_append, List.append_assoc]
    congr 1
    · apply List.map_congr_left
      intro j hj
      have : ¬ j = k := by have := List.mem_range.1 hj; omega
      simp [putF, this]
    · have e : T.drop fr = (T.drop fr).take (i - fr) ++ c :: T.drop (i + 1) := by
        conv => lhs; rw [← List.take_append_drop (i - fr) (T.drop fr), List.drop_drop, show fr + (i - fr) = i from by omega, List.drop_eq_getElem_cons hlt, (List.getElem?_eq_some_iff.1 hc).2]
      conv => lhs; rw [e]
      rw [cutL_app c _ _ h.noc]
      simp [putF, hs]
  · have hsz := h.b.size
    refine (h.b.alloc hsz o).grown hgrow (by simp; omega) ?_
    intro q hq
    exact (h.own.lt q hq).1

/-- What l3Cut gives. -/
def CutPost (c : UInt8) (T : List UInt8) (w : World) (e : Ending) (w' : World) : Prop :=
  ∃ (g n cap : Nat) (F : Nat → ByteArray), e = .returned (.slice (some ⟨g, 0, none⟩) n cap) ∧ w.heap.size ≤ g ∧ OwnT w' g n F ∧ n ≤ cap ∧ cutL c T = (List.range n).map (fun i => (F i).data.toList) ∧ Below w.heap.size w w'

set_option maxRecDepth 100000 in
set_option maxHeartbeats 4000000 in
theorem l3Cut_any (s : ByteArray) (c : UInt8) (w : World) (hs : s.size ≤ 1048576) : Calls Tryd.prog 68 #[.string s, .int .u8 (c.toNat : Int)] w (CutPost c s.data.toList w) := by
  have hlen : s.data.toList.length = s.size := by simp
  have HB0 := Lib.hid ((Below.refl w.heap.size w).alloc (Nat.le_refl _) (.cells #[] 9))
  obtain ⟨i0, hi0, hz0, hz1, hz2⟩ := info_parts infoStr
  have HST : Hid (LoopC w c s.data.toList 0 0 0 (.slice (some ⟨w.heap.size, 0, none⟩) 0 0) (fun _ => ⟨#[]⟩) (w.alloc (.cells #[] 9))) :=
    ⟨World.ownsRow_lit w #[] 0 (Nat.le_refl _) (by simp [maxLen]) rfl, rfl, by simp, HB0.out, w.heap.size, 0, rfl⟩
  obtain ⟨T, hT⟩ : ∃ T, T = s.data.toList := ⟨_, rfl⟩
  have HG : Hid (∀ k (hk : k < s.size), T[k]? = some s[k]) := by rw [hT]; exact fun k hk => sget s hk
  have HX : Hid (∀ a b, (s.extract a b).data.toList = (T.drop a).take (b - a)) := by rw [hT]; exact fun a b => Lib.extract_data s a b
  rw [← hT] at HST hlen ⊢
  clear hT HB0
  obtain ⟨cv, hcv⟩ : ∃ cv : Int, cv = (c.toNat : Int) := ⟨_, rfl⟩
  have HCV := Lib.hid hcv
  rw [← hcv]
  clear hcv
  go_enter Tryd.func68, Tryd.ntmps68
  go_wp2_with fail
  go_loopw [5, 6, 7] (fun l f i w' => ∃ (k fr j : Nat) (F : Nat → ByteArray), f = .int .i64 fr ∧ i = .int .i64 j ∧ fr ≤ j ∧ j ≤ s.size ∧ k ≤ j ∧ LoopC w c T k fr j l F w') (fun _ _ i _ => s.size - (intOf i).toNat)
  case atStart => exact ⟨0, 0, 0, _, rfl, rfl, Nat.le_refl _, Nat.zero_le _, Nat.le_refl _, HST.out⟩
  case round =>
    obtain ⟨k, fr, j, F, rfl, rfl, hfr, hj, hk, hl⟩ := hrel
    obtain ⟨wo, rfl⟩ : ∃ wo, wo = wr := ⟨_, rfl⟩
    have HL := Lib.hid hl
    obtain ⟨g, cc, rfl⟩ := hl.sl
    have hszo := hl.b.size
    clear hl HST
    by_cases hlt : j < s.size
    · have hget := Lib.hid (HG.out j hlt)
      by_cases hc : s[j] = c
      · have e1 : ((s[j]).toNat : Int) = cv := by rw [hc]; exact HCV.out.symm
        have hTj : T[j]? = some c := by rw [hget.out, hc]
        have HTJ := Lib.hid hTj
        have hsl := fun wx => slice_at s fr j hfr (by omega) (fr : Int) (j : Int) rfl rfl wx
        have e2 : (((s[j]).toNat : Int) == cv) = true := by simp [e1]
        clear hc hTj e1
        go_wp2_with (at_builtin; go_loud (refine wpList_append_lies _ rfl (.tmp 20) (.tmp 25) 22 rfl w.heap.size 9 i0 (.string ⟨#[]⟩) 1 16 Tryd.underlying22 hi0 hz0 hz1 hz2 rfl (by decide) _ k (strsOf F k) rfl (owns_below HL.out.own ((Below.refl _ _).alloc (Nat.le_refl _) _)) ⟨wo.heap.size, 0, none⟩ 1 1 [.string (s.extract fr j)] rfl rfl (news_str _ _ _) (by simp [Value.oneCell']) (by decide) (by unfold maxLen; omega) (by omega) (by simp; omega) (wo.heap.size + 1) (by simp) ?_; intro g' c' w4 hown hgrow hat hlt4; have HW4 := Lib.hid (HL.out.push hown hgrow hfr HTJ.out (HX.out fr j)); clear hown hgrow hat))
        go_roundw
        case rel => exact ⟨k + 1, j + 1, j + 1, _, by go_num, by go_num, Nat.le_refl _, by omega, by omega, HW4.out⟩
        case measure => simp [intOf]; omega
      · have e2 : (((s[j]).toNat : Int) == cv) = false := by
          rw [HCV.out]
          have : ((s[j]).toNat : Int) ≠ (c.toNat : Int) := by
            intro e
            exact hc (UInt8.toNat_inj.1 (by omega))
          simp [this]
        have HNX : Hid (LoopC w c T k fr (j + 1) (.slice (some ⟨g, 0, none⟩) k cc) F wo) := by
          refine ⟨HL.out.own, HL.out.cut, ?_, HL.out.b, HL.out.sl⟩
          intro x hx
          rw [show j + 1 - fr = (j - fr) + 1 from by omega, List.take_add_one, List.getElem?_drop, show fr + (j - fr) = j from by omega, hget.out] at hx
          rcases List.mem_append.1 hx with hx | hx
          · exact HL.out.noc x hx
          · simp at hx
            subst hx
            exact hc
        clear hc
        go_wp2_with fail
        go_roundw
        case rel => exact ⟨k, fr, j + 1, F, rfl, by go_num, by omega, by omega, by omega, HNX.out⟩
        case measure => simp [intOf]; omega
    · have hsl := fun wx => slice_from s fr (by omega) wx
      have hX := HX.out fr s.size
      have hje : j = s.size := by omega
      have HN : Hid (∀ x ∈ T.drop fr, x ≠ c) := by
        intro x hx
        refine HL.out.noc x ?_
        rw [List.take_of_length_le (by rw [List.length_drop]; omega)]
        exact hx
      have HXX : Hid ((s.extract fr s.size).data.toList = T.drop fr) := by
        show _ = _
        rw [hX, List.take_of_length_le (by rw [List.length_drop]; omega)]
      clear hX hje
      go_wp2_with (at_builtin; go_loud (refine wpList_append_lies _ rfl (.tmp 29) (.tmp 33) 22 rfl w.heap.size 9 i0 (.string ⟨#[]⟩) 1 16 Tryd.underlying22 hi0 hz0 hz1 hz2 rfl (by decide) _ k (strsOf F k) rfl (owns_below HL.out.own ((Below.refl _ _).alloc (Nat.le_refl _) _)) ⟨wo.heap.size, 0, none⟩ 1 1 [.string (s.extract fr s.size)] rfl rfl (news_str _ _ _) (by simp [Value.oneCell']) (by decide) (by unfold maxLen; omega) (by omega) (by simp; omega) (wo.heap.size + 1) (by simp) ?_; intro g' c' w4 hown hgrow hat hlt4; have HO4 := Lib.hid hown; have HG4 := Lib.hid hgrow; clear hown hgrow hat))
      go_ret
      have ho := HO4.out
      rw [← strsOf_put] at ho
      have h2 := ownT_of_owns ho
      refine ⟨g', k + 1, c', putF F k (s.extract fr s.size), rfl, h2.2.1, h2.1, h2.2.2, ?_, ?_⟩
      · rw [HL.out.cut, List.range_succ, List.map_append]
        congr 1
        · apply List.map_congr_left
          intro i hi
          have : ¬ i = k := by have := List.mem_range.1 hi; omega
          simp [putF, this]
        · rw [cutL_none c _ HN.out]
          have := HXX.out
          simp only [List.map_cons, List.map_nil, putF, if_true]
          rw [this]
      · refine (HL.out.b.alloc hszo _).grown HG4.out (by simp; omega) ?_
        intro q hq
        exact (HL.out.own.lt q hq).1

end My
end Go.Proofs.YtopijgkmgpkmnaaDoor
