/- The reference's WireGet. -/
import Derived.Test.YtopijgkmgpkmnaaDoorWireG
namespace Go.Proofs.YtopijgkmgpkmnaaDoor
open Go.RowKit Go.Deep
set_option linter.unusedVariables false
namespace My

/-- A is the text up to the colon of the next word. -/
theorem get_told {T : List UInt8} {k fr : Nat} {F : Nat → ByteArray} {v : Int} {j : Nat} (h : Inv T k F (T.drop fr)) (hl : T.length ≤ 6000) (hfr : fr < T.length) (hj : fr ≤ j) (hj2 : j ≤ T.length)
    (hA : ∀ c ∈ (T.drop fr).take (j - fr), c ≠ 58) (hc : j = T.length ∨ T[j]? = some 58) (hn : NumV ((T.drop fr).take (j - fr)) v) {G : Nat → ByteArray} {m : Nat} (hT : T = putL G m) :
    k < m ∧ v = (G k).size ∧ T[j]? = some 58 ∧ T[j + 1 + (G k).size]? = some 44 := by
  have hne : T.drop fr ≠ [] := by
    intro e
    have := congrArg List.length e
    simp at this
    omega
  obtain ⟨h1, h2⟩ := h.head hne hT
  have hlen := word_len h2
  rw [List.length_drop] at hlen
  rw [word_shape] at h2
  obtain ⟨d, hd⟩ : ∃ d, d = j - fr := ⟨_, rfl⟩
  rw [← hd] at hA hn
  obtain ⟨D, hD⟩ : ∃ D, D = Lib.decDigits (G k).size := ⟨_, rfl⟩
  have hDn : ∀ c ∈ D, c ≠ 58 := by rw [hD]; exact fun c hc => digit_ne hc
  rw [← hD] at h2
  have hget : ∀ i, T[fr + i]? = (D ++ 58 :: ((G k).data.toList ++ 44 :: putL (fun i => G (k + 1 + i)) (m - (k + 1))))[i]? := by
    intro i
    rw [← h2, List.getElem?_drop]
  have hrl : (T.drop fr).length = T.length - fr := List.length_drop
  have hRl : T.length - fr = D.length + 1 + ((G k).size + 1 + (putL (fun i => G (k + 1 + i)) (m - (k + 1))).length) := by
    rw [← hrl, h2]
    simp
    omega
  have hdD : d = D.length := by
    rcases Nat.lt_trichotomy d D.length with hlt | heq | hgt
    · exfalso
      rcases hc with hc | hc
      · omega
      · have := hget d
        rw [show fr + d = j from by omega, hc, List.getElem?_append_left hlt] at this
        exact hDn 58 (List.mem_of_getElem? this.symm) rfl
    · exact heq
    · exfalso
      apply hA 58 _ rfl
      rw [h2]
      have : (List.take d (D ++ 58 :: ((G k).data.toList ++ 44 :: putL (fun i => G (k + 1 + i)) (m - (k + 1)))))[D.length]? = some 58 := by
        rw [List.getElem?_take_of_lt hgt, List.getElem?_append_right (Nat.le_refl _)]
        simp
      exact List.mem_of_getElem? this
  have hAD : (T.drop fr).take d = D := by rw [h2, hdD]; simp
  rw [hAD, hD] at hn
  have hv : v = (G k).size := by
    rcases hn with ⟨u, hu, e, rfl⟩ | ⟨_, hbad⟩
    · rw [dec_inj e]
    · exact absurd rfl (hbad (G k).size (by omega))
  have hj58 : T[j]? = some 58 := by
    have := hget d
    rw [show fr + d = j from by omega, hdD, List.getElem?_append_right (Nat.le_refl _)] at this
    simpa using this
  have h44 : T[j + 1 + (G k).size]? = some 44 := by
    have := hget (d + 1 + (G k).size)
    rw [show fr + (d + 1 + (G k).size) = j + 1 + (G k).size from by omega, hdD, List.getElem?_append_right (by omega), show D.length + 1 + (G k).size - D.length = (G k).size + 1 from by omega, List.getElem?_cons_succ,
      List.getElem?_append_right (by simp)] at this
    simpa using this
  exact ⟨h1, hv, hj58, h44⟩
theorem get_no {T : List UInt8} {k fr : Nat} {F : Nat → ByteArray} {v : Int} {j : Nat} (h : Inv T k F (T.drop fr)) (hl : T.length ≤ 6000) (hfr : fr < T.length) (hj : fr ≤ j) (hj2 : j ≤ T.length)
    (hA : ∀ c ∈ (T.drop fr).take (j - fr), c ≠ 58) (hc : j = T.length ∨ T[j]? = some 58) (hn : NumV ((T.drop fr).take (j - fr)) v)
    (hbad : j = T.length ∨ v < 0 ∨ (T.length : Int) ≤ j + 1 + v ∨ (∃ u : Nat, v = u ∧ ∃ c, T[j + 1 + u]? = some c ∧ c ≠ 44) ∨ 40 ≤ k) : ∀ G m, ¬ IsW T G m := by
  rintro G m ⟨hT, hm, _⟩
  obtain ⟨h1, h2, h3, h4⟩ := get_told h hl hfr hj hj2 hA hc hn hT
  have l3 := (List.getElem?_eq_some_iff.1 h3).1
  have l4 := (List.getElem?_eq_some_iff.1 h4).1
  rcases hbad with hb | hb | hb | ⟨u, hu, c, hc, hb⟩ | hb
  · omega
  · omega
  · omega
  · have e : u = (G k).size := by omega
    subst e
    rw [h4] at hc
    injection hc with hc
    exact hb hc.symm
  · omega
theorem get_step {T : List UInt8} {k fr u : Nat} {F : Nat → ByteArray} {j : Nat} (h : Inv T k F (T.drop fr)) (hp : T = putL F k ++ T.drop fr) (hfr : fr < T.length) (hj : fr ≤ j)
    (hn : NumV ((T.drop fr).take (j - fr)) (u : Int)) (hc : T[j]? = some 58) (h44 : T[j + 1 + u]? = some 44) :
    Inv T (k + 1) (putF F k (txt ((T.drop (j + 1)).take u))) (T.drop (j + u + 2)) ∧ T = putL (putF F k (txt ((T.drop (j + 1)).take u))) (k + 1) ++ T.drop (j + u + 2) := by
  have l3 := (List.getElem?_eq_some_iff.1 hc).1
  have l4 := (List.getElem?_eq_some_iff.1 h44).1
  obtain ⟨X, hX⟩ : ∃ X, X = (T.drop (j + 1)).take u := ⟨_, rfl⟩
  have hXl : X.length = u := by rw [hX, List.length_take, List.length_drop]; omega
  rw [← hX]
  have hdec : (T.drop fr).take (j - fr) = Lib.decDigits u := by
    rcases hn with ⟨u', hu, e, he⟩ | ⟨he, _⟩
    · have : u = u' := by omega
      subst this
      exact e
    · omega
  have d1 : T.drop fr = Lib.decDigits u ++ T.drop j := by
    rw [← hdec]
    conv => lhs; rw [← List.take_append_drop (j - fr) (T.drop fr), List.drop_drop, show fr + (j - fr) = j from by omega]
  have d2 : T.drop j = 58 :: T.drop (j + 1) := by
    rw [List.drop_eq_getElem_cons l3]
    congr 1
    have := (List.getElem?_eq_some_iff.1 hc).2
    exact this
  have d3 : T.drop (j + 1) = X ++ T.drop (j + 1 + u) := by
    rw [hX]
    conv => lhs; rw [← List.take_append_drop u (T.drop (j + 1)), List.drop_drop]
  have d4 : T.drop (j + 1 + u) = 44 :: T.drop (j + u + 2) := by
    rw [List.drop_eq_getElem_cons l4, show j + 1 + u + 1 = j + u + 2 from by omega]
    congr 1
    exact (List.getElem?_eq_some_iff.1 h44).2
  have hw : T.drop fr = word1 (txt X) ++ T.drop (j + u + 2) := by
    rw [word_shape, txt_size, hXl, txt_data, d1, d2, d3, d4]
  have hput : putL (putF F k (txt X)) (k + 1) = putL F k ++ word1 (txt X) := by
    have e : putL (putF F k (txt X)) k = putL F k := putL_congr k fun i hi => by
      have : ¬ i = k := by omega
      simp [putF, this]
    simp only [putL]
    rw [e]
    simp [putF]
  refine ⟨⟨?_, ?_⟩, ?_⟩
  · rw [sumZ_put, txt_size, hXl, List.length_drop]
    have := h.sz
    rw [List.length_drop] at this
    omega
  · intro G m hT
    have hne : T.drop fr ≠ [] := by
      intro e
      have := congrArg List.length e
      simp at this
      omega
    obtain ⟨h1, h2⟩ := h.head hne hT
    rw [hw] at h2
    obtain ⟨e1, e2⟩ := word_cut h2
    refine ⟨h1, fun i hi => ?_, e2⟩
    by_cases hik : i = k
    · subst hik
      simpa [putF] using e1
    · simp only [putF, if_neg hik]
      exact (h.all G m hT).2.1 i (by omega)
  · rw [hput, List.append_assoc, ← hw]
    exact hp

/-- The reference's loop. -/
structure LoopS (W : World) (T : List UInt8) (l : Value) (k : Nat) (F : Nat → ByteArray) (fr : Nat) (w' : World) : Prop where
  own : w'.ownsRow W.heap.size 9 1 l k (strsOf F k)
  inv : Inv T k F (T.drop fr)
  pre : T = putL F k ++ T.drop fr
  k40 : k ≤ 40
  le : fr ≤ T.length
  b : Below W.heap.size W w'
  sl : ∃ g c, l = .slice (some ⟨g, 0, none⟩) k c
theorem LoopS.below {W w w' : World} {T : List UInt8} {l : Value} {k fr : Nat} {F : Nat → ByteArray} (h : LoopS W T l k F fr w) (hb : Below w.heap.size w w') : LoopS W T l k F fr w' :=
  ⟨owns_below h.own hb, h.inv, h.pre, h.k40, h.le, bT h.b hb, h.sl⟩
theorem LoopS.push {W w w' : World} {T : List UInt8} {l : Value} {k fr fr' : Nat} {F : Nat → ByteArray} {s : ByteArray} {g c : Nat} {o : Obj} (h : LoopS W T l k F fr w)
    (hown : w'.ownsRow W.heap.size 9 1 (.slice (some ⟨g, 0, none⟩) (k + 1) c) (k + 1) (strsOf F k ++ [.string s])) (hgrow : (w.alloc o).grownBy w' l.ownBlock)
    (hi : Inv T (k + 1) (putF F k s) (T.drop fr') ∧ T = putL (putF F k s) (k + 1) ++ T.drop fr') (hk : k < 40) (hle : fr' ≤ T.length) : LoopS W T (.slice (some ⟨g, 0, none⟩) (k + 1) c) (k + 1) (putF F k s) fr' w' := by
  refine ⟨by rw [strsOf_put]; exact hown, hi.1, hi.2, hk, hle, ?_, g, c, rfl⟩
  have hsz := h.b.size
  refine (h.b.alloc hsz o).grown hgrow (by simp; omega) ?_
  intro q hq
  exact (h.own.lt q hq).1
theorem sget (s : ByteArray) {k : Nat} (hk : k < s.size) : s.data.toList[k]? = some s[k] := by
  rw [List.getElem?_eq_getElem (by simpa using hk)]
  rfl
theorem slice_txt (s : ByteArray) (a b : Nat) : s.extract a b = txt ((s.data.toList.drop a).take (b - a)) := by
  have := Lib.extract_data s a b
  rw [← data_txt (s.extract a b), this]

theorem slice_at (s : ByteArray) (lo hi : Nat) (h1 : lo ≤ hi) (h2 : hi ≤ s.size) (a b : Int) (ha : a = lo) (hb : b = hi) (wx : World) :
    (Instr.slice 9 (.string s) (some (.int .i64 a)) (some (.int .i64 b)) none).run Tryd.prog wx = .ok (.string (s.extract lo hi)) wx := by
  subst ha hb
  have := run_slice_string (P := Tryd.prog) wx 9 s .i64 .i64 (lo : Int) (hi : Int) Tryd.underlying9 (by omega) (by omega) (by omega)
  simpa using this

set_option maxRecDepth 100000 in
set_option maxHeartbeats 4000000 in
theorem sWireGet_any (s : ByteArray) (w : World) (hs : s.size ≤ 1048576) : Calls Tryd.prog 25 #[.string s] w (GetPost s.data.toList w) := by
  have hlen : s.data.toList.length = s.size := by simp
  have HB0 := Lib.hid ((Below.refl w.heap.size w).alloc (Nat.le_refl _) (.cells #[] 9))
  obtain ⟨i0, hi0, hz0, hz1, hz2⟩ := info_parts infoStr
  by_cases hbig : 6000 < s.size
  · have HN : Hid (∀ G m, ¬ IsW s.data.toList G m) := by
      rintro G m ⟨_, _, h⟩
      omega
    go_enter Tryd.func25, Tryd.ntmps25
    go_wp2_with fail
    go_ret2
    exact ⟨_, 0, 0, false, (fun _ => ⟨#[]⟩), rfl, HB0.out, Nat.le_refl _, Or.inr ⟨rfl, rfl, HN.out⟩⟩
  · have HST : Hid (LoopS w s.data.toList (.slice (some ⟨w.heap.size, 0, none⟩) 0 0) 0 (fun _ => ⟨#[]⟩) 0 (w.alloc (.cells #[] 9))) :=
      ⟨World.ownsRow_lit w #[] 0 (Nat.le_refl _) (by simp [maxLen]) rfl, Inv.start _ _, rfl, by omega, Nat.zero_le _, HB0.out, w.heap.size, 0, rfl⟩
    obtain ⟨T, hT⟩ : ∃ T, T = s.data.toList := ⟨_, rfl⟩
    have HG : Hid (∀ k (hk : k < s.size), T[k]? = some s[k]) := by rw [hT]; exact fun k hk => sget s hk
    have HX : Hid (∀ a b, s.extract a b = txt ((T.drop a).take (b - a))) := by rw [hT]; exact fun a b => slice_txt s a b
    rw [← hT] at HST hlen ⊢
    clear hT HB0
    go_enter Tryd.func25, Tryd.ntmps25
    go_wp2_with fail
    go_loopw [4, 5] (fun l i w' => ∃ (k fr : Nat) (F : Nat → ByteArray), i = .int .i64 fr ∧ LoopS w T l k F fr w') (fun _ i _ => s.size - (intOf i).toNat)
    case atStart => exact ⟨0, 0, _, rfl, HST.out⟩
    case round =>
      obtain ⟨k, fr, F, rfl, hls⟩ := hrel
      obtain ⟨wo, rfl⟩ : ∃ wo, wo = wr := ⟨_, rfl⟩
      have HL := Lib.hid hls
      have k40 := hls.k40
      have le1 := hls.le
      obtain ⟨g, c, rfl⟩ := hls.sl
      clear hls HST
      by_cases hfr : fr < s.size
      · go_wp2_with fail
        go_loop [5] (fun i => ∃ j : Nat, i = .int .i64 j ∧ fr ≤ j ∧ j ≤ s.size ∧ ∀ c ∈ (T.drop fr).take (j - fr), c ≠ 58) (fun i => s.size - (intOf i).toNat)
        case atStart => exact ⟨fr, rfl, Nat.le_refl _, by omega, by simp⟩
        case round =>
          obtain ⟨j, rfl, hj1, hj2, hjc⟩ := hrel
          have HJ := Lib.hid hjc
          clear hjc
          have hnum : Hid (Calls Tryd.prog 57 #[.string (s.extract fr j)] wo fun e w' => (∃ v : Int, e = .returned (.int .i64 v) ∧ NumV ((T.drop fr).take (j - fr)) v) ∧ wo = w') := by
            refine (l2Num_any (s.extract fr j) wo (by simp; omega)).mono ?_
            rintro e w' ⟨⟨v, rfl, hv⟩, rfl⟩
            rw [HX.out, txt_data] at hv
            exact ⟨⟨v, rfl, hv⟩, rfl⟩
          by_cases hlt : j < s.size
          · by_cases hc : (s[j]).toNat = 58
            · have h58 : T[j]? = some 58 := by
                rw [HG.out j hlt]
                congr 1
                exact UInt8.toNat_inj.1 hc
              have c1 : ((s[j]).toNat : Int) = 58 := by omega
              have HNO : Hid (∀ v, NumV ((T.drop fr).take (j - fr)) v → (j = T.length ∨ v < 0 ∨ (T.length : Int) ≤ j + 1 + v ∨ (∃ u : Nat, v = u ∧ ∃ c, T[j + 1 + u]? = some c ∧ c ≠ 44) ∨ 40 ≤ k) → ∀ G m, ¬ IsW T G m) :=
                fun v hv hb => get_no HL.out.inv (by omega) (by omega) hj1 (by omega) HJ.out (Or.inr h58) hv hb
              have HYES : Hid (∀ u : Nat, NumV ((T.drop fr).take (j - fr)) (u : Int) → T[j + 1 + u]? = some 44 → Inv T (k + 1) (putF F k (txt ((T.drop (j + 1)).take u))) (T.drop (j + u + 2)) ∧ T = putL (putF F k (txt ((T.drop (j + 1)).take u))) (k + 1) ++ T.drop (j + u + 2)) :=
                fun u hv h44 => get_step HL.out.inv HL.out.pre (by omega) hj1 hv h58 h44
              clear hc h58
              go_wp2_with fail
              refine hnum.out.mono ?_
              rintro e w1 ⟨⟨v, rfl, hv⟩, rfl⟩
              have HN := Lib.hid (HNO.out v hv)
              have HY : Hid (∀ u : Nat, v = u → T[j + 1 + u]? = some 44 → Inv T (k + 1) (putF F k (txt ((T.drop (j + 1)).take u))) (T.drop (j + u + 2)) ∧ T = putL (putF F k (txt ((T.drop (j + 1)).take u))) (k + 1) ++ T.drop (j + u + 2)) := by
                rintro u rfl h44
                exact HYES.out u hv h44
              have vb : v < 1000000000000 := by
                rcases hv with ⟨u, hu, _, rfl⟩ | ⟨rfl, _⟩ <;> omega
              have vb2 : -1 ≤ v := by
                rcases hv with ⟨u, hu, _, rfl⟩ | ⟨rfl, _⟩ <;> omega
              clear hv HNO HYES hnum
              by_cases h1 : v < 0
              · have HN2 := Lib.hid (HN.out (Or.inr (Or.inl h1)))
                go_wp2_with fail
                go_ret2
                exact ⟨_, 0, 0, false, F, rfl, HL.out.b.alloc HL.out.b.size _, Nat.le_refl _, Or.inr ⟨rfl, rfl, HN2.out⟩⟩
              · obtain ⟨u, rfl⟩ : ∃ u : Nat, v = u := ⟨v.toNat, by omega⟩
                have wr1 : IntKind.i64.wrap ((j : Int) + 1 + u) = (j : Int) + 1 + u := IntWalk.i64_in _ (by omega)
                have wr2 : IntKind.i64.wrap ((j : Int) + 1) = (j : Int) + 1 := IntWalk.i64_in _ (by omega)
                clear vb vb2
                by_cases h2 : (s.size : Int) ≤ (j : Int) + 1 + u
                · have HN2 := Lib.hid (HN.out (Or.inr (Or.inr (Or.inl (by omega)))))
                  go_wp2_with fail
                  go_ret2
                  exact ⟨_, 0, 0, false, F, rfl, HL.out.b.alloc HL.out.b.size _, Nat.le_refl _, Or.inr ⟨rfl, rfl, HN2.out⟩⟩
                · have hxl : j + 1 + u < s.size := by omega
                  have hget := Lib.hid (HG.out (j + 1 + u) hxl)
                  have bj : ((j : Int) == (s.size : Int)) = false := by
                    have : (j : Int) ≠ (s.size : Int) := by omega
                    simp [this]
                  have bu : decide ((u : Int) < 0) = false := by simp
                  have bx : decide ((s.size : Int) ≤ (j : Int) + 1 + u) = false := by simp; omega
                  by_cases h44 : (s[j + 1 + u]).toNat = 44
                  · have e44 : T[j + 1 + u]? = some 44 := by
                      rw [hget.out]
                      congr 1
                      exact UInt8.toNat_inj.1 h44
                    have c2 : ((s[j + 1 + u]).toNat : Int) = 44 := by omega
                    have HS := Lib.hid (HY.out u rfl e44)
                    clear h44
                    by_cases hk : 40 ≤ k
                    · have HN2 := Lib.hid (HN.out (Or.inr (Or.inr (Or.inr (Or.inr hk)))))
                      clear e44 HN HY HS
                      go_wp2_with fail
                      go_ret2
                      exact ⟨_, 0, 0, false, F, rfl, HL.out.b.alloc HL.out.b.size _, Nat.le_refl _, Or.inr ⟨rfl, rfl, HN2.out⟩⟩
                    · clear e44 HN HY
                      have hszo := HL.out.b.size
                      have hext : Hid (s.extract (j + 1) (j + 1 + u) = txt ((T.drop (j + 1)).take u)) := by
                        show _ = _
                        rw [HX.out, show j + 1 + u - (j + 1) = u from by omega]
                      have hsl := fun wx => slice_at s (j + 1) (j + 1 + u) (by omega) (by omega) ((j : Int) + 1) ((j : Int) + 1 + u) (by omega) (by omega) wx
                      go_wp2_with (at_builtin; go_loud (refine wpList_append_lies _ rfl (.tmp 67) (.tmp 76) 22 rfl w.heap.size 9 i0 (.string ⟨#[]⟩) 1 16 Tryd.underlying22 hi0 hz0 hz1 hz2 rfl (by decide) _ k (strsOf F k) rfl (owns_below HL.out.own ((Below.refl _ _).alloc (Nat.le_refl _) _)) ⟨wo.heap.size, 0, none⟩ 1 1 [.string (txt ((T.drop (j + 1)).take u))] rfl rfl (by rw [← hext.out]; exact news_str _ _ _) (by simp [Value.oneCell']) (by decide) (by unfold maxLen; omega) (by omega) (by simp; omega) (wo.heap.size + 1) (by simp) ?_; intro g' c' w4 hown hgrow hat hlt4; have HW4 := Lib.hid (HL.out.push hown hgrow HS.out (by omega) (by omega)); clear hown hgrow hat))
                      go_roundw
                      case rel => exact ⟨k + 1, j + u + 2, _, by go_num, HW4.out⟩
                      case measure => simp [intOf]; omega
                  · have c2 : (s[j + 1 + u]).toNat ≠ 44 := h44
                    have HN2 := Lib.hid (HN.out (Or.inr (Or.inr (Or.inr (Or.inl ⟨u, rfl, s[j + 1 + u], hget.out, fun e => h44 (by rw [e]; rfl)⟩)))))
                    have c3 : ((s[j + 1 + u]).toNat : Int) ≠ 44 := by omega
                    clear h44 HN HY hget
                    go_wp2_with fail
                    go_ret2
                    exact ⟨_, 0, 0, false, F, rfl, HL.out.b.alloc HL.out.b.size _, Nat.le_refl _, Or.inr ⟨rfl, rfl, HN2.out⟩⟩
            · have c1 : ((s[j]).toNat : Int) ≠ 58 := by omega
              have HT1 : Hid ((T.drop fr).take (j + 1 - fr) = (T.drop fr).take (j - fr) ++ [s[j]]) := by
                show _ = _
                rw [show j + 1 - fr = (j - fr) + 1 from by omega, List.take_add_one, List.getElem?_drop, show fr + (j - fr) = j from by omega, HG.out j hlt]
                rfl
              have HC : Hid (s[j] ≠ 58) := fun e => hc (by rw [e]; rfl)
              clear hc hnum
              go_wp2_with fail
              go_round
              case rel =>
                refine ⟨j + 1, by go_num, by omega, by omega, ?_⟩
                rw [HT1.out]
                intro x hx
                rw [List.mem_append, List.mem_singleton] at hx
                rcases hx with hx | rfl
                · exact HJ.out x hx
                · exact HC.out
              case measure => simp [intOf]; omega
          · have e : j = s.size := by omega
            have HNO : Hid (∀ v, NumV ((T.drop fr).take (j - fr)) v → ∀ G m, ¬ IsW T G m) :=
              fun v hv => get_no HL.out.inv (by omega) (by omega) hj1 (by omega) HJ.out (Or.inl (by omega)) hv (Or.inl (by omega))
            have bj : ((j : Int) == (s.size : Int)) = true := by rw [e]; simp
            have bj2 : decide ((j : Int) < (s.size : Int)) = false := by rw [e]; simp
            clear e
            go_wp2_with fail
            refine hnum.out.mono ?_
            rintro e w1 ⟨⟨v, rfl, hv⟩, rfl⟩
            have HN2 := Lib.hid (HNO.out v hv)
            clear hv
            go_wp2_with fail
            go_ret2
            exact ⟨_, 0, 0, false, F, rfl, HL.out.b.alloc HL.out.b.size _, Nat.le_refl _, Or.inr ⟨rfl, rfl, HN2.out⟩⟩
      · have HE : Hid (IsW T F k) := by
          have := HL.out.pre
          rw [List.drop_eq_nil_of_le (by omega), List.append_nil] at this
          exact ⟨this, k40, by omega⟩
        have ho := ownT_of_owns HL.out.own
        have HO := Lib.hid ho
        clear ho
        go_wp2_with fail
        go_ret2
        exact ⟨_, k, c, true, F, rfl, HL.out.b, HO.out.2.2, Or.inl ⟨rfl, HE.out, Or.inr ⟨g, rfl, HO.out.2.1, HO.out.1⟩⟩⟩

end My
end Go.Proofs.YtopijgkmgpkmnaaDoor
