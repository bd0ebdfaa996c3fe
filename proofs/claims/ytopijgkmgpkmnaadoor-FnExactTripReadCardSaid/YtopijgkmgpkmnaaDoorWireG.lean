/- The program's WireGet. -/
import Derived.Test.YtopijgkmgpkmnaaDoorWireP
namespace Go.Proofs.YtopijgkmgpkmnaaDoor
open Go.RowKit Go.Deep
set_option linter.unusedVariables false
namespace My

def GetPost (T : List UInt8) (w : World) (e : Ending) (w' : World) : Prop :=
  ∃ (a : Option Addr) (n cap : Nat) (b : Bool) (F : Nat → ByteArray), e = .returned (.tuple #[.slice a n cap, .bool b]) ∧ Below w.heap.size w w' ∧ n ≤ cap ∧
    ((b = true ∧ IsW T F n ∧ (n = 0 ∨ ∃ g, a = some ⟨g, 0, none⟩ ∧ w.heap.size ≤ g ∧ OwnT w' g n F)) ∨ (b = false ∧ n = 0 ∧ ∀ G m, ¬ IsW T G m))

theorem txt_take (B : List UInt8) (v : Nat) : (txt B).extract 0 v = txt (B.take v) := by
  rw [Lib.extract_eq]
  simp [txt]
theorem txt_drop (B : List UInt8) (v : Nat) : (txt B).extract v (txt B).size = txt (B.drop v) := by
  rw [Lib.extract_eq, txt_size]
  rw [List.take_of_length_le (by rw [List.length_drop]; simp [txt])]
  simp [txt]

theorem clip_nil (w : World) : Calls Tryd.prog 60 #[.slice none 0 0] w fun e w' => e = .returned (.slice none 0 0) ∧ w = w' := by
  go_enter Tryd.func60, Tryd.ntmps60
  go_wp2_with fail
  go_ret
  exact ⟨rfl, rfl⟩
theorem clip_any (g n cap : Nat) (w : World) (h : n ≤ cap) (h1 : n ≤ 1048576) : Calls Tryd.prog 60 #[.slice (some ⟨g, 0, none⟩) n cap] w fun e w' => e = .returned (.slice (some ⟨g, 0, none⟩) n n) ∧ w = w' := by
  go_enter Tryd.func60, Tryd.ntmps60
  go_wp2_with fail
  go_ret
  exact ⟨rfl, rfl⟩

/-- The state of the loop: the words so far in a row of their own, what is left. -/
structure LoopG (W : World) (T : List UInt8) (l : Value) (k : Nat) (F : Nat → ByteArray) (R : List UInt8) (w' : World) : Prop where
  own : w'.ownsRow W.heap.size 9 1 l k (strsOf F k)
  inv : Inv T k F R
  b : Below W.heap.size W w'

theorem cut_len {R A B : List UInt8} {f : Bool} {sep : List UInt8} (h : Lib.cut R sep = (A, B, f)) : A.length ≤ R.length ∧ B.length ≤ R.length := by
  unfold Lib.cut at h
  split at h <;> simp only [Prod.mk.injEq] at h <;> obtain ⟨rfl, rfl, rfl⟩ := h
  · simp only [List.length_take, List.length_drop]; omega
  · simp
theorem owns_below {w w' : World} {base e n : Nat} {l : Value} {xs : List Value} (h : w.ownsRow base e 1 l n xs) (hb : Below w.heap.size w w') : w'.ownsRow base e 1 l n xs :=
  h.kept (row := none) ⟨hb.os, hb.tape, hb.output, hb.size, fun k hk _ => hb.block k hk⟩ (by cases hv : l.ownBlock with
    | none => exact Or.inl rfl
    | some x => exact Or.inr (by simp))
theorem LoopG.below {W w w' : World} {T : List UInt8} {l : Value} {k : Nat} {F : Nat → ByteArray} {R : List UInt8} (h : LoopG W T l k F R w) (hb : Below w.heap.size w w') : LoopG W T l k F R w' :=
  ⟨owns_below h.own hb, h.inv, bT h.b hb⟩
theorem LoopG.shape {W w : World} {T : List UInt8} {l : Value} {k : Nat} {F : Nat → ByteArray} {R : List UInt8} (h : LoopG W T l k F R w) :
    (l = .slice none 0 0 ∧ k = 0) ∨ ∃ g c, l = .slice (some ⟨g, 0, none⟩) k c ∧ OwnT w g k F ∧ W.heap.size ≤ g ∧ k ≤ c := by
  have h0 := h.own
  rcases h0.2 with ⟨h', hk⟩ | ⟨g, c, cur, hv, hb, hh, hn, hc, hs, ht⟩
  · exact Or.inl ⟨h', hk⟩
  · subst hv
    have := ownT_of_owns h0
    exact Or.inr ⟨g, c, rfl, this.1, this.2.1, this.2.2⟩
theorem LoopG.push {W w w' : World} {T : List UInt8} {l : Value} {k : Nat} {F : Nat → ByteArray} {R R' : List UInt8} {s : ByteArray} {g c : Nat} {o : Obj} (h : LoopG W T l k F R w)
    (hown : w'.ownsRow W.heap.size 9 1 (.slice (some ⟨g, 0, none⟩) (k + 1) c) (k + 1) (strsOf F k ++ [.string s])) (hgrow : (w.alloc o).grownBy w' l.ownBlock)
    (hi : Inv T (k + 1) (putF F k s) R') : LoopG W T (.slice (some ⟨g, 0, none⟩) (k + 1) c) (k + 1) (putF F k s) R' w' := by
  refine ⟨by rw [strsOf_put]; exact hown, hi, ?_⟩
  have hsz := h.b.size
  refine (h.b.alloc hsz o).grown hgrow (by simp; omega) ?_
  intro q hq
  exact (h.own.lt q hq).1

set_option maxRecDepth 100000 in
set_option maxHeartbeats 4000000 in
theorem iWireGet_any (s : ByteArray) (w : World) (hs : s.size ≤ 1048576) (henv : EnvN w) : Calls Tryd.prog 26 #[.string s] w (GetPost s.data.toList w) := by
  have HE := Lib.hid henv
  clear henv
  obtain ⟨T, hT⟩ : ∃ T, T = s.data.toList := ⟨_, rfl⟩
  have hlen : T.length ≤ 1048576 := by rw [hT]; simpa using hs
  have e : s = txt T := by rw [hT, data_txt]
  rw [← hT]
  subst e
  clear hT hs
  have HST : Hid (LoopG w T (.slice none 0 0) 0 (fun _ => ⟨#[]⟩) T w) := ⟨World.ownsRow_nil _ _ _ _, Inv.start T _, Below.refl _ _⟩
  obtain ⟨i0, hi0, hz0, hz1, hz2⟩ := info_parts infoStr
  go_enter Tryd.func26, Tryd.ntmps26
  go_wp2_with fail
  go_loopw [4, 5] (fun l r w' => ∃ (k : Nat) (F : Nat → ByteArray) (R : List UInt8), r = .string (txt R) ∧ LoopG w T l k F R w') (fun _ r _ => match r with | .string x => x.size | _ => 0)
  case atStart => exact ⟨0, _, T, rfl, HST.out⟩
  case round =>
    obtain ⟨k, F, R, rfl, hg⟩ := hrel
    obtain ⟨wo, rfl⟩ : ∃ wo, wo = wr := ⟨_, rfl⟩
    have HG := Lib.hid hg
    have HEo := Lib.hid (HE.out.below hg.b)
    have ksz := hg.inv.sz
    clear hg HST
    by_cases hR : R = []
    · subst hR
      have hE : txt [] = (⟨#[]⟩ : ByteArray) := rfl
      rw [hE]
      clear hE
      have sh := HG.out.shape
      have hN : Hid (wpT F k ≠ T → ∀ G m, ¬ IsW T G m) := HG.out.inv.last_no
      have hY : Hid (wpT F k = T → IsW T F k) := HG.out.inv.last
      have HPUT : Hid (∀ a c, InS wo a k F → k ≤ c → Calls Tryd.prog 15 #[.slice a k c] wo (StrPost (wpT F k) wo)) := fun a c hi hc => iWirePut_any a k c F wo hi (by omega) hc (by omega) HEo.out.t
      obtain ⟨X, hX⟩ : ∃ X, X = wpT F k := ⟨_, rfl⟩
      rw [← hX] at hN hY HPUT
      clear hX
      by_cases hXT : X = T
      · subst hXT
        have HY := Lib.hid (hY.out rfl)
        clear hN hY
        rcases sh with ⟨rfl, rfl⟩ | ⟨g, c, rfl, hown, hge, hkc⟩
        · go_wp2_with fail
          refine (HPUT.out none 0 (Or.inl rfl) (Nat.le_refl _)).mono ?_
          rintro e w1 ⟨rfl, b1⟩
          have HB := Lib.hid (bT HG.out.b b1)
          clear b1
          go_wp2_with fail
          refine (clip_nil _).mono ?_
          rintro e w2 ⟨rfl, rfl⟩
          go_wp2_with fail
          go_ret2
          exact ⟨none, 0, 0, true, F, rfl, HB.out, Nat.le_refl _, Or.inl ⟨rfl, HY.out, Or.inl rfl⟩⟩
        · have HO := Lib.hid hown
          clear hown
          go_wp2_with fail
          refine (HPUT.out _ c HO.out.inS hkc).mono ?_
          rintro e w1 ⟨rfl, b1⟩
          have HB := Lib.hid (bT HG.out.b b1)
          have HO1 := Lib.hid (HO.out.below b1 (Nat.le_refl _))
          clear b1
          go_wp2_with fail
          refine (clip_any g k c _ hkc (by omega)).mono ?_
          rintro e w2 ⟨rfl, rfl⟩
          go_wp2_with fail
          go_ret2
          exact ⟨_, k, k, true, F, rfl, HB.out, Nat.le_refl _, Or.inl ⟨rfl, HY.out, Or.inr ⟨g, rfl, hge, HO1.out⟩⟩⟩
      · have HN := Lib.hid (hN.out hXT)
        clear hN hY
        have hne : ((txt X).toList == (txt T).toList) = false := by
          rw [Lib.bytes_beq_false_iff]
          intro e
          apply hXT
          rw [← txt_data X, e, txt_data]
        clear hXT
        rcases sh with ⟨rfl, rfl⟩ | ⟨g, c, rfl, hown, hge, hkc⟩
        · go_wp2_with fail
          refine (HPUT.out none 0 (Or.inl rfl) (Nat.le_refl _)).mono ?_
          rintro e w1 ⟨rfl, b1⟩
          have HB := Lib.hid (bT HG.out.b b1)
          clear b1
          go_wp2_with fail
          go_ret2
          exact ⟨none, 0, 0, false, F, rfl, HB.out, Nat.le_refl _, Or.inr ⟨rfl, rfl, HN.out⟩⟩
        · have HO := Lib.hid hown
          clear hown
          go_wp2_with fail
          refine (HPUT.out _ c HO.out.inS hkc).mono ?_
          rintro e w1 ⟨rfl, b1⟩
          have HB := Lib.hid (bT HG.out.b b1)
          clear b1
          go_wp2_with fail
          go_ret2
          exact ⟨none, 0, 0, false, F, rfl, HB.out, Nat.le_refl _, Or.inr ⟨rfl, rfl, HN.out⟩⟩
    · have HR := Lib.hid hR
      have hne : (txt R).toList.isEmpty = false := by
        rw [Lib.toList_data, txt_data]
        cases R with
        | nil => exact absurd rfl hR
        | cons x l => rfl
      clear hR
      obtain ⟨A, B, f, hc⟩ : ∃ A B f, Lib.cut R [58] = (A, B, f) := ⟨_, _, _, rfl⟩
      have HC := Lib.hid hc
      have hcl := cut_len hc
      have HCut : Hid (Calls Tryd.prog 58 #[.string (txt R), .string ⟨#[58]⟩] wo fun e w' => e = .returned (.tuple #[.string (txt A), .string (txt B), .bool f]) ∧ Below wo.heap.size wo w') := by
        refine (Tryd.strings_Cut_shaped (txt R) (txt [58]) wo HEo.out.sh (by rw [txt_size]; omega)).mono ?_
        rintro e w' ⟨rfl, n, rfl⟩
        rw [txt_data, txt_data, hc]
        exact ⟨rfl, below_drewN (Below.refl _ _) n⟩
      clear hc
      go_wp2_with fail
      refine HCut.out.mono ?_
      rintro e w1 ⟨rfl, b1⟩
      have HG1 := Lib.hid (HG.out.below b1)
      have HE1 := Lib.hid (HEo.out.below b1)
      clear b1
      go_wp2_with fail
      refine (number_any (txt A) w1 (by rw [txt_size]; omega) HE1.out).mono ?_
      rintro e w2 ⟨v, b, rfl, _, hn, v0, v1, b2⟩
      rw [txt_data] at hn
      have HNO : Hid (f = false ∨ b = false ∨ v < 0 ∨ (B.length : Int) ≤ v → ∀ G m, ¬ IsW T G m) := HG.out.inv.no HR.out hlen HC.out hn
      have HST : Hid (f = true → ∀ u : Nat, v = u → u < B.length → Inv T (k + 1) (putF F k (txt (B.take u))) (B.drop (u + 1)) ∧ (B.drop (u + 1)).length < R.length) := by
        rintro rfl u rfl hu
        exact HG.out.inv.step HR.out hlen HC.out hn hu
      have HG2 := Lib.hid (HG1.out.below b2)
      have hBs : (txt B).size = B.length := txt_size B
      clear hn b2 HG HG1 HEo HE1 HCut HC
      cases f with
      | false =>
        have HN := Lib.hid (HNO.out (Or.inl rfl))
        go_wp2_with fail
        go_ret2
        exact ⟨none, 0, 0, false, F, rfl, HG2.out.b, Nat.le_refl _, Or.inr ⟨rfl, rfl, HN.out⟩⟩
      | true =>
        cases b with
        | false =>
          have HN := Lib.hid (HNO.out (Or.inr (Or.inl rfl)))
          go_wp2_with fail
          go_ret2
          exact ⟨none, 0, 0, false, F, rfl, HG2.out.b, Nat.le_refl _, Or.inr ⟨rfl, rfl, HN.out⟩⟩
        | true =>
          by_cases h1 : v < 0
          · have HN := Lib.hid (HNO.out (Or.inr (Or.inr (Or.inl h1))))
            go_wp2_with fail
            go_ret2
            exact ⟨none, 0, 0, false, F, rfl, HG2.out.b, Nat.le_refl _, Or.inr ⟨rfl, rfl, HN.out⟩⟩
          · by_cases h2 : ((txt B).size : Int) ≤ v
            · have HN := Lib.hid (HNO.out (Or.inr (Or.inr (Or.inr (by omega)))))
              go_wp2_with fail
              go_ret2
              exact ⟨none, 0, 0, false, F, rfl, HG2.out.b, Nat.le_refl _, Or.inr ⟨rfl, rfl, HN.out⟩⟩
            · obtain ⟨u, rfl⟩ : ∃ u : Nat, v = u := ⟨v.toNat, by omega⟩
              have hst := HST.out rfl u rfl (by omega)
              have HST2 := Lib.hid hst
              have hsz2 := HG2.out.b.size
              clear hst HST HNO
              go_wp2_with (at_builtin; go_loud (refine wpList_append_lies _ rfl (.tmp 41) (.tmp 45) 22 rfl w.heap.size 9 i0 (.string ⟨#[]⟩) 1 16 Tryd.underlying22 hi0 hz0 hz1 hz2 rfl (by decide) _ k (strsOf F k) rfl (owns_below HG2.out.own ((Below.refl _ _).alloc (Nat.le_refl _) _)) ⟨w2.heap.size, 0, none⟩ 1 1 [.string (txt (B.take u))] rfl rfl (by rw [← txt_take]; exact news_str _ _ _) (by simp [Value.oneCell']) (by decide) (by unfold maxLen; omega) (by omega) (by simp; omega) (w2.heap.size + 1) (by simp) ?_; intro g' c' w4 hown hgrow hat hlt4; have HW4 := Lib.hid (HG2.out.push hown hgrow HST2.out.1); clear hown hgrow hat))
              go_roundw
              case rel => exact ⟨k + 1, _, B.drop (u + 1), by rw [← txt_drop, hBs], HW4.out⟩
              case measure =>
                have := HST2.out.2
                rw [List.length_drop] at this
                have e1 := txt_size R
                simp
                omega

end My
end Go.Proofs.YtopijgkmgpkmnaaDoor
