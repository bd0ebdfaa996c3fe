/- FnExactWireGet: the walk. -/
import Derived.Test.YtopijgkmgpkmnaaDoorHeld
import Derived.Test.YtopijgkmgpkmnaaDoorEnvN
namespace Go.Proofs.YtopijgkmgpkmnaaDoor
open Go.RowKit Go.Deep
set_option linter.unusedVariables false
namespace My

/-- What WireGet gives, sorted out. -/
theorem getPost_own {T : List UInt8} {w w' : World} {e : Ending} (h : GetPost T w e w') :
    ∃ (a : Option Addr) (n cap : Nat) (b : Bool) (F : Nat → ByteArray), e = .returned (.tuple #[.slice a n cap, .bool b]) ∧ OwnQ w.heap.size w' a n cap F ∧ n ≤ 40 ∧ Below w.heap.size w w' ∧
      ((b = true ∧ IsW T F n) ∨ (b = false ∧ n = 0 ∧ ∀ G m, ¬ IsW T G m)) := by
  obtain ⟨a, n, cap, b, F, rfl, hb, hc, h⟩ := h
  refine ⟨a, n, cap, b, F, rfl, ⟨hc, ?_⟩, ?_, hb, ?_⟩
  · rcases h with ⟨_, _, h0 | ⟨g, rfl, hg, ho⟩⟩ | ⟨_, h0, _⟩
    · exact Or.inl h0
    · exact Or.inr ⟨g, rfl, hg, ho⟩
    · exact Or.inl h0
  · rcases h with ⟨_, hw, _⟩ | ⟨_, h0, _⟩
    · exact hw.2.1
    · omega
  · rcases h with ⟨h1, h2, _⟩ | h
    · exact Or.inl ⟨h1, h2⟩
    · exact Or.inr h
theorem getPost_same {T : List UInt8} {F G : Nat → ByteArray} {n m : Nat} {b c : Bool} (h : (b = true ∧ IsW T F n) ∨ (b = false ∧ n = 0 ∧ ∀ G m, ¬ IsW T G m)) (h' : (c = true ∧ IsW T G m) ∨ (c = false ∧ m = 0 ∧ ∀ G m, ¬ IsW T G m)) :
    b = c ∧ n = m ∧ ∀ i, i < n → F i = G i := by
  rcases h with ⟨rfl, h⟩ | ⟨rfl, rfl, h⟩ <;> rcases h' with ⟨rfl, h'⟩ | ⟨rfl, rfl, h'⟩
  · exact ⟨rfl, (h.inj h').1, (h.inj h').2⟩
  · exact absurd h (h' _ _)
  · exact absurd h' (h _ _)
  · exact ⟨rfl, rfl, fun i hi => by omega⟩
theorem InS.congr {w : World} {a : Option Addr} {n : Nat} {F G : Nat → ByteArray} (h : InS w a n F) (e : ∀ i, i < n → F i = G i) : InS w a n G := by
  rcases h with h | ⟨b, off, rfl, k⟩
  · exact Or.inl h
  · exact Or.inr ⟨b, off, rfl, fun i hi => by rw [k.c i hi, e i hi], k.lt⟩

set_option maxRecDepth 100000 in
set_option maxHeartbeats 2000000 in
theorem FnExactWireGet_walk (a0 : ByteArray) (w : World) (w0 : a0.size ≤ maxLen) (henv : Env5 w) :
    Calls Tryd.prog 7 #[.string a0] w fun e w' => e = .returned (.bool true) ∧ Below w.heap.size w w' := by
  have HE := Lib.hid (show EnvN w from henv)
  have HB0 := Lib.hid (Below.refl w.heap.size w)
  unfold maxLen at w0
  clear henv
  by_cases hbig : 1048576 < a0.size
  · go_enter Tryd.func7, Tryd.ntmps7
    go_wp2_with fail
    go_ret
    exact ⟨rfl, HB0.out⟩
  · go_enter Tryd.func7, Tryd.ntmps7
    go_wp2_with fail
    refine (sWireGet_any a0 w (by omega)).mono ?_
    rintro e w1 hp
    obtain ⟨a, n, cap, b, F, rfl, ho, hn, hb, hc⟩ := getPost_own hp
    have HO1 := Lib.hid ho
    have HB1 := Lib.hid hb
    have HC := Lib.hid hc
    have hcap := ho.le
    clear hp ho hb hc
    go_wp2_with fail
    refine (iWireGet_any a0 w1 (by omega) (HE.out.below HB1.out)).mono ?_
    rintro e w2 hp
    obtain ⟨a', n', cap', b', G, rfl, ho, hn', hb, hc⟩ := getPost_own hp
    obtain ⟨rfl, rfl, hFG⟩ := getPost_same HC.out hc
    have HW2 := Lib.hid hb
    have HS1 := Lib.hid (HO1.out.inS.below hb (Nat.le_refl _))
    have HO2 := Lib.hid ho
    have HB2 := Lib.hid (bT HB1.out hb)
    have HFG := Lib.hid hFG
    have hcap' := ho.le
    have sz2 := hb.size
    have HIN2 := Lib.hid (HO2.out.inS.congr (fun i hi => (hFG i hi).symm))
    clear hp ho hb hc hFG
    go_wp2_with fail
    refine (eqStringS_same a' a n cap' cap F w2 HIN2.out HS1.out (by omega) hcap' hcap).mono ?_
    rintro e _ ⟨rfl, z, rfl⟩
    go_wp2_with fail
    refine (markStringS_any w1.heap.size a' n cap' G _ (HO2.out.below (below_drewN (Below.refl _ _) z) (Nat.le_refl _)) (by omega) (by simpa using sz2)).mono ?_
    rintro e w3 ⟨rfl, ho, hb⟩
    have HO3 := Lib.hid ho
    have HC3 := Lib.hid ((below_drewN (Below.refl w1.heap.size w2) z).trans hb)
    have HW3 := Lib.hid (HW2.out.trans HC3.out)
    have HB3 := Lib.hid (HB2.out.trans (HC3.out.mono HB1.out.size))
    clear ho hb
    go_wp2_with fail
    refine (heldStringS_any a' n cap' w3 HO3.out.inS (by omega) hcap').mono ?_
    rintro e w4 ⟨rfl, hb⟩
    have HO4 := Lib.hid (HO3.out.below hb (Nat.le_refl _))
    have HB4 := Lib.hid (bT HB3.out hb)
    have HC4 := Lib.hid hb
    clear hb
    go_wp2_with fail
    refine (iWireGet_any a0 w4 (by omega) (HE.out.below HB4.out)).mono ?_
    rintro e w5 hp
    obtain ⟨a5, n5, cap5, b5, G5, rfl, ho, hn5, hb, hc⟩ := getPost_own hp
    obtain ⟨rfl, rfl, hFG⟩ := getPost_same HC.out hc
    have HIN5 := Lib.hid (ho.inS.congr (fun i hi => (hFG i hi).symm))
    have HB5 := Lib.hid (bT HB4.out hb)
    have HO5 := Lib.hid (HO4.out.below hb (Nat.le_refl _))
    have hcap5 := ho.le
    have HW5 := Lib.hid (bT HW3.out (bT HC4.out hb))
    have HS5 := Lib.hid (HO1.out.inS.below HW5.out (Nat.le_refl _))
    clear hp ho hb hc hFG
    go_wp2_with fail
    refine (eqStringS_same a5 a n cap5 cap F w5 HIN5.out HS5.out (by omega) hcap5 hcap).mono ?_
    rintro e _ ⟨rfl, z5, rfl⟩
    go_wp2_with fail
    refine (heldStringS_any a' n cap' _ (HO5.out.inS.below (below_drewN (Below.refl _ _) z5) (Nat.le_refl _)) (by omega) hcap').mono ?_
    rintro e w6 ⟨rfl, hb⟩
    have HB6 := Lib.hid (bT HB5.out ((below_drewN (Below.refl w5.heap.size w5) z5).trans hb))
    clear hb
    go_wp2_with fail
    go_ret
    exact ⟨rfl, HB6.out⟩

end My
end Go.Proofs.YtopijgkmgpkmnaaDoor
