/- FnExactTripRead: the walk. -/
import Derived.Test.YtopijgkmgpkmnaaDoorTripS
namespace Go.Proofs.YtopijgkmgpkmnaaDoor
open Go.RowKit Go.Deep
set_option linter.unusedVariables false
namespace My

/-- All blocks but one are as they were. -/
def Kept (n : Nat) (a : Option Addr) (w w' : World) : Prop := ∀ k, k < w.heap.size → n = 0 ∨ a ≠ some ⟨k, 0, none⟩ → w'.heap[k]? = w.heap[k]?
theorem Kept.below {n : Nat} {a : Option Addr} {w w1 w2 : World} (h : Kept n a w w1) (hs : w.heap.size ≤ w1.heap.size) (hb : Below w1.heap.size w1 w2) : Kept n a w w2 :=
  fun k hk he => (hb.block k (Nat.lt_of_lt_of_le hk hs)).trans (h k hk he)
theorem Kept.setCell {n g : Nat} {w w1 : World} (h : Kept n (some ⟨g, 0, none⟩) w w1) (hn : 0 < n) (i : Nat) (v : Value) : Kept n (some ⟨g, 0, none⟩) w (w1.setCell ⟨g, i, none⟩ v) := by
  intro k hk he
  have hne : ¬ g = k := by
    rintro rfl
    rcases he with he | he
    · omega
    · exact he rfl
  rw [← h k hk he]
  simp [World.setCell, Array.getElem?_modify, hne]

set_option maxRecDepth 100000 in
set_option maxHeartbeats 1000000 in
theorem markStringK_any (base : Nat) (a : Option Addr) (n cap : Nat) (F : Nat → ByteArray) (w : World) (h : OwnQ base w a n cap F) (hn : n ≤ 1000) (hbase : base ≤ w.heap.size) :
    Calls Tryd.prog 27 #[.slice a n cap, .int .i64 1] w fun e w' => e = .returned (.int .i64 (1 + n)) ∧ OwnQ base w' a n cap (fun i => mkT (1 + i)) ∧ Below base w w' ∧ Kept n a w w' := by
  have hle := h.le
  rcases h.own with h0 | ⟨g, rfl, hg, ho⟩
  · subst h0
    clear h
    go_enter Tryd.func27, Tryd.ntmps27
    go_wp2_with fail
    go_loopw [1, 5] (fun v i w' => i = .int .i64 0 ∧ v = .int .i64 1 ∧ w' = w) (fun _ _ _ => 0)
    case atStart => exact ⟨rfl, rfl, rfl⟩
    case round =>
      obtain ⟨rfl, rfl, rfl⟩ := hrel
      go_wp2_with fail
      go_ret
      exact ⟨rfl, ⟨hle, Or.inl rfl⟩, Below.refl _ _, fun k hk he => rfl⟩
  · have HO := Lib.hid ho
    clear h ho
    go_enter Tryd.func27, Tryd.ntmps27
    go_wp2_with fail
    go_loopw [1, 5] (fun v i w' => ∃ k : Nat, k ≤ n ∧ i = .int .i64 k ∧ v = .int .i64 (1 + k) ∧ OwnT w' g n (mixQ F k) ∧ Below base w w' ∧ Kept n (some ⟨g, 0, none⟩) w w') (fun _ i _ => n - (intOf i).toNat)
    case atStart => exact ⟨0, Nat.zero_le _, rfl, rfl, HO.out.congr (fun i _ => rfl), Below.refl _ _, fun k hk he => rfl⟩
    case round =>
      obtain ⟨k, hk, rfl, rfl, ho, hb, hkp⟩ := hrel
      obtain ⟨wo, rfl⟩ : ∃ wo, wo = wr := ⟨_, rfl⟩
      clear HO
      have HO := Lib.hid ho
      have HB := Lib.hid hb
      have HKP := Lib.hid hkp
      clear ho hb hkp
      by_cases hlt : k < n
      · have HMK : Hid (Calls Tryd.prog 61 #[.int .i64 (1 + (k : Int))] wo (StrPost (mkL (1 + k)) wo)) := by
          have := markText_any (1 + k) wo (by omega) (by omega)
          rw [show (((1 + k : Nat)) : Int) = 1 + (k : Int) from by omega] at this
          exact this
        go_wp2_with fail
        refine HMK.out.mono ?_
        rintro e w1 ⟨rfl, hb⟩
        have HK1 := Lib.hid (HKP.out.below HB.out.size hb)
        have HO1 := Lib.hid (HO.out.below hb (Nat.le_refl _))
        have HB1 := Lib.hid (HB.out.trans (hb.mono (Nat.le_trans hbase HB.out.size)))
        clear hb
        have ck := HO1.out.cell hlt
        have fk := HO1.out.frozen k
        go_wp2_with fail
        go_roundw
        case rel => exact ⟨k + 1, hlt, by go_num, by go_num, (HO1.out.set k _).congr (fun i _ => mixQ_set i), HB1.out.setCell hg _, HK1.out.setCell (by omega) _ _⟩
        case measure => simp [intOf]; omega
      · go_wp2_with fail
        go_ret
        have hlen : k = n := by omega
        subst hlen
        exact ⟨rfl, ⟨hle, Or.inr ⟨g, rfl, hg, HO.out.congr (fun i hi => by simp only [mixQ]; rw [if_pos hi])⟩⟩, HB.out, HKP.out⟩


set_option maxRecDepth 100000 in
theorem markTrip_any (base : Nat) (a : Option Addr) (n c : Nat) (f : ByteArray) (s : Int) (F : Nat → ByteArray) (w : World) (h : OwnQ base w a n c F) (hn : n ≤ 1000) (hbase : base ≤ w.heap.size) :
    Calls Tryd.prog 38 #[.agg #[.slice a n c, .string f, .int .i64 s], .int .i64 1] w fun e w' => e = .returned (.int .i64 (1 + n)) ∧ OwnQ base w' a n c (fun i => mkT (1 + i)) ∧ Below base w w' ∧ Kept n a w w' := by
  have hb0 := (Below.refl base w).alloc hbase (.cells #[.slice a n c, .string f, .int .i64 s] 37)
  have HB := Lib.hid hb0
  have hK0 : Kept n a w (w.alloc (.cells #[.slice a n c, .string f, .int .i64 s] 37)) := fun k hk he => blk_alloc_lt _ _ _ hk
  have HKK := Lib.hid hK0
  have HM := Lib.hid (markStringK_any base a n c F (w.alloc (.cells #[.slice a n c, .string f, .int .i64 s] 37)) (h.below ((Below.refl w.heap.size w).alloc (Nat.le_refl _) _) (Nat.le_refl _)) hn (by simp; omega))
  clear h hb0 hK0
  go_enter Tryd.func38, Tryd.ntmps38
  go_wp2_with fail
  refine HM.out.mono ?_
  rintro e w1 ⟨rfl, ho, hb, hk⟩
  have HO := Lib.hid ho
  have HB1 := Lib.hid (HB.out.trans hb)
  have HK1 : Hid (Kept n a w w1) := fun k hk' he => (hk k (by simp; omega) he).trans (HKK.out k hk' he)
  clear ho hb hk
  go_wp2_with fail
  go_ret
  exact ⟨rfl, HO.out, HB1.out, HK1.out⟩

set_option maxRecDepth 100000 in
theorem heldTrip_any (a : Option Addr) (n c : Nat) (f : ByteArray) (s : Int) (w : World) (h : InS w a n (fun i => mkT (1 + i))) (hn : n ≤ 1000) (hc : n ≤ c) :
    Calls Tryd.prog 39 #[.agg #[.slice a n c, .string f, .int .i64 s], .int .i64 1] w fun e w' => e = .returned (.int .i64 (1 + n)) ∧ Below w.heap.size w w' := by
  have hb0 := (Below.refl w.heap.size w).alloc (Nat.le_refl _) (.cells #[.slice a n c, .string f, .int .i64 s] 37)
  have HB := Lib.hid hb0
  have HM := Lib.hid (heldStringS_any a n c (w.alloc (.cells #[.slice a n c, .string f, .int .i64 s] 37)) (h.below hb0 (Nat.le_refl _)) hn hc)
  clear h hb0
  go_enter Tryd.func39, Tryd.ntmps39
  go_wp2_with fail
  refine HM.out.mono ?_
  rintro e w1 ⟨rfl, hb⟩
  have HB1 := Lib.hid (bT HB.out hb)
  clear hb
  go_wp2_with fail
  go_ret
  exact ⟨rfl, HB1.out⟩

theorem trPost_same {T : List UInt8} {F G : Nat → ByteArray} {n m : Nat} {f g : ByteArray} {s t : Int} {b c : Bool} (h : (b = true ∧ IsT T F n f s) ∨ (b = false ∧ n = 0 ∧ f = ⟨#[]⟩ ∧ s = 0 ∧ ∀ G m f s, ¬ IsT T G m f s))
    (h' : (c = true ∧ IsT T G m g t) ∨ (c = false ∧ m = 0 ∧ g = ⟨#[]⟩ ∧ t = 0 ∧ ∀ G m f s, ¬ IsT T G m f s)) : b = c ∧ n = m ∧ f = g ∧ s = t ∧ ∀ i, i < n → F i = G i := by
  rcases h with ⟨rfl, h⟩ | ⟨rfl, rfl, rfl, rfl, h⟩ <;> rcases h' with ⟨rfl, h'⟩ | ⟨rfl, rfl, rfl, rfl, h'⟩
  · obtain ⟨h1, h2, h3, h4⟩ := h.inj h'
    exact ⟨rfl, h1, h3, h4, h2⟩
  · exact absurd h (h' _ _ _ _)
  · exact absurd h' (h _ _ _ _)
  · exact ⟨rfl, rfl, rfl, rfl, fun i hi => by omega⟩

set_option maxRecDepth 100000 in
set_option maxHeartbeats 4000000 in
theorem FnExactTripRead_walk (a0 : ByteArray) (w : World) (w0 : a0.size ≤ maxLen) (henv : Env7 w) :
    Calls Tryd.prog 11 #[.string a0] w fun e w' => e = .returned (.bool true) ∧ Below w.heap.size w w' := by
  have HE := Lib.hid (show EnvN w from henv)
  have HB0 := Lib.hid (Below.refl w.heap.size w)
  unfold maxLen at w0
  clear henv
  by_cases hbig : 1048576 < a0.size
  · go_enter Tryd.func11, Tryd.ntmps11
    go_wp2_with fail
    go_ret
    exact ⟨rfl, HB0.out⟩
  · go_enter Tryd.func11, Tryd.ntmps11
    go_wp2_with fail
    refine (sTripRead_any a0 w (by omega)).mono ?_
    rintro e w1 ⟨a, n, c, f, s, F, b, rfl, ho, hn, -, hb, hc⟩
    have HC := Lib.hid hc
    have hcap := ho.le
    have hA := blk_alloc_new w1 (.cells #[.slice a n c, .string f, .int .i64 s] 37)
    have HBA := Lib.hid (hb.alloc hb.size (.cells #[.slice a n c, .string f, .int .i64 s] 37))
    have HOA := Lib.hid (ho.below ((Below.refl w1.heap.size w1).alloc (Nat.le_refl _) (.cells #[.slice a n c, .string f, .int .i64 s] 37)) (Nat.le_refl _))
    have hAs : w1.heap.size < (w1.alloc (.cells #[.slice a n c, .string f, .int .i64 s] 37)).heap.size := by simp
    clear hb hc ho
    go_wp2_with fail
    obtain ⟨wA, hwA⟩ : ∃ wA, wA = w1.alloc (.cells #[.slice a n c, .string f, .int .i64 s] 37) := ⟨_, rfl⟩
    obtain ⟨pA, hpA⟩ : ∃ pA, pA = w1.heap.size := ⟨_, rfl⟩
    rw [← hwA, ← hpA] at hA hAs
    rw [← hwA] at HBA HOA
    rw [← hwA, ← hpA]
    clear hwA hpA
    refine (iTripRead_any a0 wA (by omega) (HE.out.below HBA.out)).mono ?_
    rintro e w2 ⟨a', n', c', f', s', G, b', rfl, ho, hn', -, hb, hc⟩
    obtain ⟨rfl, rfl, rfl, rfl, hFG⟩ := trPost_same HC.out hc
    have hcap' := ho.le
    have hA2 := (hb.block pA hAs).trans hA
    have hsz2 := hb.size
    have HSA := Lib.hid (HOA.out.inS.below hb (Nat.le_refl _))
    have hB := blk_alloc_new w2 (.cells #[.slice a' n c', .string f, .int .i64 s] 37)
    have hAB := (blk_alloc_lt w2 (.cells #[.slice a' n c', .string f, .int .i64 s] 37) pA (Nat.lt_of_lt_of_le hAs hsz2)).trans hA2
    have hal := (Below.refl w2.heap.size w2).alloc (Nat.le_refl _) (.cells #[.slice a' n c', .string f, .int .i64 s] 37)
    have HBB := Lib.hid (bT (bT HBA.out hb) hal)
    have HBW := Lib.hid (bT hb hal)
    have HSB := Lib.hid (HSA.out.below hal (Nat.le_refl _))
    have HOB := Lib.hid (ho.below hal (Nat.le_refl _))
    have HFG := Lib.hid (fun i hi => (hFG i hi).symm)
    have hBs : w2.heap.size < (w2.alloc (.cells #[.slice a' n c', .string f, .int .i64 s] 37)).heap.size := by simp
    have hneB : n = 0 ∨ a' ≠ some ⟨w2.heap.size, 0, none⟩ := by
      rcases ho.own with h0 | ⟨g, rfl, hg, hog⟩
      · exact Or.inl h0
      · refine Or.inr ?_
        have := hog.lt
        intro e
        first
          | (simp at e; omega)
          | (simp at e)
    have hneA : n = 0 ∨ a' ≠ some ⟨pA, 0, none⟩ := by
      rcases ho.own with h0 | ⟨g, rfl, hg, hog⟩
      · exact Or.inl h0
      · refine Or.inr ?_
        intro e
        first
          | (simp at e; omega)
          | (simp at e)
    have ca0 := cellB hAB 0
    have ca1 := cellB hAB 1
    have ca2 := cellB hAB 2
    simp at ca0 ca1 ca2
    clear hb hc ho hA hA2 hFG hal
    go_wp2_with fail
    clear ca0 ca1 ca2
    obtain ⟨wB, hwB⟩ : ∃ wB, wB = w2.alloc (.cells #[.slice a' n c', .string f, .int .i64 s] 37) := ⟨_, rfl⟩
    obtain ⟨pB, hpB⟩ : ∃ pB, pB = w2.heap.size := ⟨_, rfl⟩
    rw [← hwB, ← hpB] at hB hBs
    rw [← hpB] at hneB
    rw [← hwB] at HBB HBW HSB HOB hAB
    rw [← hwB, ← hpB]
    clear hwB hpB
    have hABs : pA < wB.heap.size := lt_heap hAB
    refine (eqTrip_same a' a n c' c f s F wB (HOB.out.inS.congr HFG.out) HSB.out (by omega) hcap' hcap).mono ?_
    rintro e w3 ⟨rfl, hb⟩
    have hB3 := (hb.block pB hBs).trans hB
    have hA3 := (hb.block pA hABs).trans hAB
    have b0 := cellB hB3 0
    have b1 := cellB hB3 1
    have b2 := cellB hB3 2
    simp at b0 b1 b2
    have HB3 := Lib.hid (bT HBB.out hb)
    have HW3 := Lib.hid (bT HBW.out hb)
    have HO3 := Lib.hid (HOB.out.below hb (Nat.le_refl _))
    have hsz3 := hb.size
    have hszA := HW3.out.size
    clear hb hB hAB
    go_wp2_with fail
    refine (markTrip_any wA.heap.size a' n c' f s G w3 HO3.out (by omega) hszA).mono ?_
    rintro e w4 ⟨rfl, ho, hb, hk⟩
    have hB4 := (hk pB (Nat.lt_of_lt_of_le hBs hsz3) hneB).trans hB3
    have hA4 := (hk pA (Nat.lt_of_lt_of_le hABs hsz3) hneA).trans hA3
    have HO4 := Lib.hid ho
    have HW4 := Lib.hid (HW3.out.trans hb)
    have HB4 := Lib.hid (HB3.out.trans (hb.mono HBA.out.size))
    have b0 := cellB hB4 0
    have b1 := cellB hB4 1
    have b2 := cellB hB4 2
    simp at b0 b1 b2
    clear ho hb hk hA3 hB3
    go_wp2_with fail
    refine (heldTrip_any a' n c' f s w4 HO4.out.inS (by omega) hcap').mono ?_
    rintro e w5 ⟨rfl, hb⟩
    have hB5 := (hb.block pB (lt_heap hB4)).trans hB4
    have hA5 := (hb.block pA (lt_heap hA4)).trans hA4
    have HO5 := Lib.hid (HO4.out.below hb (Nat.le_refl _))
    have HW5 := Lib.hid (bT HW4.out hb)
    have HB5 := Lib.hid (bT HB4.out hb)
    clear hb hA4 hB4 b0 b1 b2
    go_wp2_with fail
    refine (iTripRead_any a0 w5 (by omega) (HE.out.below HB5.out)).mono ?_
    rintro e w6 ⟨a6, n6, c6, f6, s6, G6, b6, rfl, ho, hn6, -, hb, hc⟩
    obtain ⟨rfl, rfl, rfl, rfl, hFG⟩ := trPost_same HC.out hc
    have hcap6 := ho.le
    have hal := (Below.refl w6.heap.size w6).alloc (Nat.le_refl _) (.cells #[.slice a6 n c6, .string f, .int .i64 s] 37)
    have hC := blk_alloc_new w6 (.cells #[.slice a6 n c6, .string f, .int .i64 s] 37)
    have hB7 := ((bT hb hal).block pB (lt_heap hB5)).trans hB5
    have hA7 := ((bT hb hal).block pA (lt_heap hA5)).trans hA5
    have HB7 := Lib.hid (bT (bT HB5.out hb) hal)
    have HW7 := Lib.hid (bT (bT HW5.out hb) hal)
    have HO7 := Lib.hid ((HO5.out.below hb (Nat.le_refl _)).below hal (Nat.le_refl _))
    have HI7 := Lib.hid ((ho.inS.congr (fun i hi => (hFG i hi).symm)).below hal (Nat.le_refl _))
    have HS7 := Lib.hid (HOA.out.inS.below HW7.out (Nat.le_refl _))
    have hCs : w6.heap.size < (w6.alloc (.cells #[.slice a6 n c6, .string f, .int .i64 s] 37)).heap.size := by simp
    have ca0 := cellB hA7 0
    have ca1 := cellB hA7 1
    have ca2 := cellB hA7 2
    simp at ca0 ca1 ca2
    clear hb hc ho hal hFG hA5 hB5
    go_wp2_with fail
    clear ca0 ca1 ca2
    obtain ⟨w7, hw7⟩ : ∃ w7, w7 = w6.alloc (.cells #[.slice a6 n c6, .string f, .int .i64 s] 37) := ⟨_, rfl⟩
    obtain ⟨pC, hpC⟩ : ∃ pC, pC = w6.heap.size := ⟨_, rfl⟩
    rw [← hw7, ← hpC] at hC hCs
    rw [← hw7] at HB7 HW7 HO7 HI7 HS7 hB7 hA7
    rw [← hw7, ← hpC]
    clear hw7 hpC
    refine (eqTrip_same a6 a n c6 c f s F w7 HI7.out HS7.out (by omega) hcap6 hcap).mono ?_
    rintro e w8 ⟨rfl, hb⟩
    have hB8 := (hb.block pB (lt_heap hB7)).trans hB7
    have b0 := cellB hB8 0
    have b1 := cellB hB8 1
    have b2 := cellB hB8 2
    simp at b0 b1 b2
    have HO8 := Lib.hid (HO7.out.below hb (Nat.le_refl _))
    have HB8 := Lib.hid (bT HB7.out hb)
    clear hb hA7 hB7
    go_wp2_with fail
    refine (heldTrip_any a' n c' f s w8 HO8.out.inS (by omega) hcap').mono ?_
    rintro e w9 ⟨rfl, hb⟩
    have HB9 := Lib.hid (bT HB8.out hb)
    clear hb
    go_wp2_with fail
    go_ret
    exact ⟨rfl, HB9.out⟩

end My
end Go.Proofs.YtopijgkmgpkmnaaDoor
