/- FnExactWirePut: how its slice is opened; the walk. -/
import Derived.Test.YtopijgkmgpkmnaaDoorWire
import Derived.SliceStrings
import Derived.ProofKit
namespace Go.Proofs.YtopijgkmgpkmnaaDoor
open Go.RowKit Go.Deep
set_option linter.unusedVariables false
namespace My

structure StrsIn (w : World) (a : Option Addr) (len cap : Nat) (F : Nat → ByteArray) : Prop where
  le : len ≤ cap
  max : cap ≤ maxLen
  each : ∀ i, i < len → (F i).size ≤ 9223372036854775807
  at_ : InS w a len F
theorem addr_addS (b off n : Nat) : Addr.add ⟨b, off, none⟩ n = ⟨b, off + n, none⟩ := by
  by_cases h : n = 0 <;> simp [Addr.add, h]

/-- Texts that came in. -/
theorem openStrings {H : Type} {enc : TypeId × Value → H} {W : World} {a : Option Addr} {len cap : Nat} {d : DataW H} {p : List MemPlace}
    (h : DataW.Trod enc Tryd.prog W 0 (fun _ => true) true 22 (.slice a len cap) d p) : ∃ z : Nat → ByteArray, StrsIn W a len cap z := by
  obtain ⟨fuel, hf⟩ := h
  rcases Go.ChangeShapes.open_strings Tryd.underlying22 Tryd.underlying9 (by kernel_rfl) hf with ⟨hcs, _⟩ | ⟨x, l, c, zs, hcs, _, hl, hm, hz, _, hcell, hwz⟩
  · simp [Value.cells] at hcs
    obtain ⟨rfl, rfl, rfl⟩ := hcs
    exact ⟨fun _ => ⟨#[]⟩, Nat.le_refl _, by simp [maxLen], fun i hi => by omega, Or.inl rfl⟩
  · simp [Value.cells] at hcs
    obtain ⟨rfl, rfl, rfl⟩ := hcs
    have hz' : zs.length = cap := by simpa using hz
    refine ⟨fun i => zs.getD i ByteArray.empty, hl, hm, ?_, ?_⟩
    · intro i hi
      have := hwz (zs.getD i ByteArray.empty) (by
        rw [List.getD_eq_getElem?_getD, List.getElem?_eq_getElem (by omega)]
        exact List.getElem_mem _)
      unfold maxLen at this
      omega
    · by_cases h0 : len = 0
      · exact Or.inl h0
      · obtain ⟨b, off, spot⟩ := x
        have hspot : spot = none := by simpa [Addr.add] using World.cell?_spot (hcell 0 (by omega))
        subst hspot
        have hb : b < W.heap.size := World.block_lt_of_cell? W _ (hcell 0 (by omega))
        refine Or.inr ⟨b, off, rfl, fun j hj => ?_, hb⟩
        have := hcell j (by omega)
        rwa [addr_addS] at this

set_option maxHeartbeats 1000000 in
theorem FnExactWirePut_walk (a0 : Option Addr) (len0 cap0 : Nat) (F : Nat → ByteArray) (w : World) (h : StrsIn w a0 len0 cap0 F) (henv : Env3 w) :
    Calls Tryd.prog 3 #[.slice a0 len0 cap0] w fun e w' => e = .returned (.bool true) ∧ Below w.heap.size w w' := by
  have HE := Lib.hid (show EnvT w from henv)
  have hc := h.le
  have hmx := h.max
  unfold maxLen at hmx
  have HK := Lib.hid (fun w' (hb : Below w.heap.size w w') => h.at_.below hb (Nat.le_refl _))
  have HB0 := Lib.hid (Below.refl w.heap.size w)
  have HSZ := Lib.hid (szStringS_any a0 len0 cap0 1048576 F w h.at_ (by omega) (by omega) (by omega) hc h.each)
  clear henv h
  go_enter Tryd.func3, Tryd.ntmps3
  go_wp2_with fail
  with_reducible refine HSZ.out.mono ?_
  rintro e w' ⟨r, rfl, hr, hr1, hr0, rfl⟩
  have HR := Lib.hid hr
  clear hr
  by_cases hneg : r < 0
  · go_wp2_with fail
    go_ret
    exact ⟨rfl, HB0.out⟩
  · have hre := HR.out (by omega)
    have hn : len0 ≤ 1048576 := by omega
    have hz : sumZ F len0 ≤ 1048576 := by omega
    clear hre
    go_wp2_with fail
    with_reducible refine (toStringS_any a0 len0 cap0 F _ (HK.out _ HB0.out) hn hc).mono ?_
    rintro e w1 ⟨rfl, o1, b1⟩
    have HO1 := Lib.hid o1
    have HB1 := Lib.hid b1
    clear o1 b1
    go_wp2_with fail
    with_reducible refine (sWirePut_any _ len0 len0 F w1 HO1.out.inS hn (Nat.le_refl _) hz).mono ?_
    rintro e w2 ⟨rfl, b2⟩
    have HB2 := Lib.hid (bT HB1.out b2)
    clear b2
    go_wp2_with fail
    with_reducible refine (toStringS_any a0 len0 cap0 F _ (HK.out _ HB2.out) hn hc).mono ?_
    rintro e w3 ⟨rfl, o3, b3⟩
    have HO3 := Lib.hid o3
    have HB3 := Lib.hid (bT HB2.out b3)
    clear o3 b3
    go_wp2_with fail
    with_reducible refine (iWirePut_any _ len0 len0 F w3 HO3.out.inS hn (Nat.le_refl _) hz (HE.out.below HB3.out)).mono ?_
    rintro e w4 ⟨rfl, b4⟩
    have HB4 := Lib.hid (bT HB3.out b4)
    have HC4 := Lib.hid b4
    clear b4
    go_wp2_with fail
    with_reducible refine (toStringS_any a0 len0 cap0 F _ (HK.out _ HB4.out) hn hc).mono ?_
    rintro e w5 ⟨rfl, o5, b5⟩
    have HO5 := Lib.hid o5
    have HB5 := Lib.hid (bT HB4.out b5)
    have HC5 := Lib.hid (bT HC4.out b5)
    clear o5 b5
    go_wp2_with fail
    with_reducible refine (eqStringS_same _ _ len0 len0 len0 F w5 (HO3.out.inS.below HC5.out (Nat.le_refl _)) HO5.out.inS hn (Nat.le_refl _) (Nat.le_refl _)).mono ?_
    rintro e _ ⟨rfl, z, rfl⟩
    go_wp2_with fail
    go_ret
    exact ⟨rfl, below_drewN HB5.out z⟩

end My
end Go.Proofs.YtopijgkmgpkmnaaDoor
