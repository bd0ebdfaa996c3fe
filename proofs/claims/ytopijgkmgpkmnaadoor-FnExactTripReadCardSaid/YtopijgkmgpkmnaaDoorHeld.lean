/- The exact laws' marks in slices of strings. -/
import Derived.Test.YtopijgkmgpkmnaaDoorWireQ
import Derived.Deep.RegionWith
namespace Go.Proofs.YtopijgkmgpkmnaaDoor
open Go.RowKit Go.Deep
set_option linter.unusedVariables false
namespace My

def mkL (k : Nat) : List UInt8 := 109 :: Lib.decDigits k
def mkT (k : Nat) : ByteArray := txt (mkL k)
set_option maxRecDepth 100000 in
set_option maxHeartbeats 1000000 in
theorem markText_any (k : Nat) (w : World) (h1 : 1 ≤ k) (h2 : k ≤ 1000000) : Calls Tryd.prog 61 #[.int .i64 k] w (StrPost (mkL k) w) := by
  have hk := dec_size k (by omega)
  have HB := Lib.hid (Below.refl w.heap.size w)
  obtain ⟨K, hK⟩ : ∃ K, K = Lib.decDigits k := ⟨_, rfl⟩
  have HM : Hid (mkL k = 109 :: K) := by rw [hK]; rfl
  have HST : Hid (Lib.decDigits k = K) := hK.symm
  rw [← hK] at hk
  clear hK
  go_enter Tryd.func61, Tryd.ntmps61
  go_wp2_with fail
  go_loopw [0, 3] (fun v o w' => ∃ (j : Nat) (D : List UInt8), v = .int .i64 j ∧ o = .string (txt D) ∧ ((1 ≤ j ∧ K = Lib.decDigits j ++ D) ∨ (j = 0 ∧ D = K)) ∧ j ≤ 1000000 ∧ Below w.heap.size w w') (fun v _ _ => (intOf v).toNat)
  case atStart => exact ⟨k, [], rfl, rfl, Or.inl ⟨h1, by rw [HST.out]; simp⟩, h2, HB.out⟩
  case round =>
    obtain ⟨j, D, rfl, rfl, hK, hj, hb⟩ := hrel
    obtain ⟨wo, rfl⟩ : ∃ wo, wo = wr := ⟨_, rfl⟩
    clear HB
    have HB := Lib.hid hb
    have HK := Lib.hid hK
    have hD : (txt D).size ≤ 30 := by
      rw [txt_size] at hk ⊢
      rcases hK with ⟨_, e⟩ | ⟨_, e⟩
      · have := congrArg List.length e
        simp only [List.length_append] at this
        omega
      · rw [e]; omega
    clear hK hb
    by_cases hlt : 0 < j
    · obtain ⟨d, hd⟩ : ∃ d, d = j / 10 := ⟨_, rfl⟩
      obtain ⟨r, hr⟩ : ∃ r, r = j % 10 := ⟨_, rfl⟩
      obtain ⟨b, hb⟩ : ∃ b, b = UInt8.ofNat (48 + r) := ⟨_, rfl⟩
      have HN : Hid ((1 ≤ d ∧ K = Lib.decDigits d ++ ([b] ++ D)) ∨ (d = 0 ∧ [b] ++ D = K)) := by
        have hK2 : K = Lib.decDigits j ++ D := by
          rcases HK.out with ⟨_, e⟩ | ⟨e, _⟩
          · exact e
          · omega
        by_cases h10 : j < 10
        · refine Or.inr ⟨by omega, ?_⟩
          rw [hK2, dec_one h10, hb, hr, show j % 10 = j from by omega]
        · refine Or.inl ⟨by omega, ?_⟩
          rw [hK2, dec_big h10, hb, hr, hd]
          simp
      have r1 : r < 10 := by omega
      have d1 : d < j := by omega
      have e1 : (j : Int).tdiv 10 = (d : Int) := by rw [Int.tdiv_eq_ediv_of_nonneg (by omega)]; omega
      have e3 : (j : Int).tmod 10 = (r : Int) := by rw [Int.tmod_eq_emod_of_nonneg (by omega)]; omega
      have hk := fun (w' : World) (g : Nat) (hc : w'.cell? ⟨g, 0, none⟩ = some (.int .u8 (48 + (r : Int)))) => conv_one (b := b) (by rw [hb, UInt8.toNat_ofNat']; omega) hc
      clear hd hr hb
      have z2 := one_size b
      have z3 : ¬ 9223372036854775807 < (txt [b]).size + (txt D).size := by omega
      clear z2
      have e2 : IntKind.i64.wrap (d : Int) = (d : Int) := IntWalk.i64_in _ (by omega)
      have e4 : IntKind.i64.wrap (r : Int) = (r : Int) := IntWalk.i64_in _ (by omega)
      have e5 : IntKind.i64.wrap (48 + (r : Int)) = 48 + (r : Int) := IntWalk.i64_in _ (by omega)
      have e6 : IntKind.u8.wrap (48 + (r : Int)) = 48 + (r : Int) := IntWalk.u8_in _ (by clear e2 e4 e5; omega)
      go_wp2_with fail
      go_roundw
      case rel => exact ⟨d, [b] ++ D, by go_num, by rw [← txt_app], HN.out, by omega, HB.out.alloc (by have := HB.out.size; exact this) _⟩
      case measure => simp [intOf]; omega
    · have HM2 : Hid (mkL k = [109] ++ D) := by
        show _ = _
        rw [HM.out]
        rcases HK.out with ⟨_, e⟩ | ⟨_, e⟩
        · omega
        · rw [e]; rfl
      have z0 : (txt [109]).size = 1 := one_size 109
      go_wp2_with fail
      go_ret
      exact ⟨Eq.trans (b := Ending.returned (.string (txt [109] ++ txt D))) rfl (ret_txt (by rw [HM2.out, txt_app])), HB.out⟩

/-- n texts lie in a row that may be written, above a base. -/
structure OwnQ (base : Nat) (w : World) (a : Option Addr) (n cap : Nat) (F : Nat → ByteArray) : Prop where
  le : n ≤ cap
  own : n = 0 ∨ ∃ g, a = some ⟨g, 0, none⟩ ∧ base ≤ g ∧ OwnT w g n F
theorem OwnQ.inS {base : Nat} {w : World} {a : Option Addr} {n cap : Nat} {F : Nat → ByteArray} (h : OwnQ base w a n cap F) : InS w a n F := by
  rcases h.own with h0 | ⟨g, rfl, hg, ho⟩
  · exact Or.inl h0
  · exact ho.inS
theorem OwnQ.below {base B : Nat} {w w' : World} {a : Option Addr} {n cap : Nat} {F : Nat → ByteArray} (h : OwnQ base w a n cap F) (hb : Below B w w') (hB : w.heap.size ≤ B) : OwnQ base w' a n cap F := by
  refine ⟨h.le, ?_⟩
  rcases h.own with h0 | ⟨g, rfl, hg, ho⟩
  · exact Or.inl h0
  · exact Or.inr ⟨g, rfl, hg, ho.below hb hB⟩
def mixQ (F : Nat → ByteArray) (k i : Nat) : ByteArray := if i < k then mkT (1 + i) else F i
theorem mixQ_set {F : Nat → ByteArray} {k : Nat} (i : Nat) : setT (mixQ F k) k (mkT (1 + k)) i = mixQ F (k + 1) i := by
  simp only [setT, mixQ]
  by_cases h : i = k
  · subst h; simp
  · rw [if_neg h]
    by_cases h2 : i < k
    · rw [if_pos h2, if_pos (by omega)]
    · rw [if_neg h2, if_neg (by omega)]

set_option maxRecDepth 100000 in
set_option maxHeartbeats 1000000 in
theorem markStringS_any (base : Nat) (a : Option Addr) (n cap : Nat) (F : Nat → ByteArray) (w : World) (h : OwnQ base w a n cap F) (hn : n ≤ 1000) (hbase : base ≤ w.heap.size) :
    Calls Tryd.prog 27 #[.slice a n cap, .int .i64 1] w fun e w' => e = .returned (.int .i64 (1 + n)) ∧ OwnQ base w' a n cap (fun i => mkT (1 + i)) ∧ Below base w w' := by
  have hle := h.le
  rcases h.own with h0 | ⟨g, rfl, hg, ho⟩
  · subst h0
    clear h
    go_enter Tryd.func27, Tryd.ntmps27
    go_wp2_with fail
    go_loopw [1, 5] (fun v i w' => i = .int .i64 0 ∧ v = .int .i64 1 ∧ w' = w) (fun _ _ _ => 0)
    case atStart => exact ⟨rfl, rfl, rfl⟩
    case round =>
      obtain ⟨rfl, rfl, rfl⟩ := hrel
      go_wp2_with fail
      go_ret
      exact ⟨rfl, ⟨hle, Or.inl rfl⟩, Below.refl _ _⟩
  · have HO := Lib.hid ho
    clear h ho
    go_enter Tryd.func27, Tryd.ntmps27
    go_wp2_with fail
    go_loopw [1, 5] (fun v i w' => ∃ k : Nat, k ≤ n ∧ i = .int .i64 k ∧ v = .int .i64 (1 + k) ∧ OwnT w' g n (mixQ F k) ∧ Below base w w') (fun _ i _ => n - (intOf i).toNat)
    case atStart => exact ⟨0, Nat.zero_le _, rfl, rfl, HO.out.congr (fun i _ => rfl), Below.refl _ _⟩
    case round =>
      obtain ⟨k, hk, rfl, rfl, ho, hb⟩ := hrel
      obtain ⟨wo, rfl⟩ : ∃ wo, wo = wr := ⟨_, rfl⟩
      clear HO
      have HO := Lib.hid ho
      have HB := Lib.hid hb
      clear ho hb
      by_cases hlt : k < n
      · have HMK : Hid (Calls Tryd.prog 61 #[.int .i64 (1 + (k : Int))] wo (StrPost (mkL (1 + k)) wo)) := by
          have := markText_any (1 + k) wo (by omega) (by omega)
          rw [show (((1 + k : Nat)) : Int) = 1 + (k : Int) from by omega] at this
          exact this
        go_wp2_with fail
        refine HMK.out.mono ?_
        rintro e w1 ⟨rfl, hb⟩
        have HO1 := Lib.hid (HO.out.below hb (Nat.le_refl _))
        have HB1 := Lib.hid (HB.out.trans (hb.mono (Nat.le_trans hbase HB.out.size)))
        clear hb
        have ck := HO1.out.cell hlt
        have fk := HO1.out.frozen k
        go_wp2_with fail
        go_roundw
        case rel => exact ⟨k + 1, hlt, by go_num, by go_num, (HO1.out.set k _).congr (fun i _ => mixQ_set i), HB1.out.setCell hg _⟩
        case measure => simp [intOf]; omega
      · go_wp2_with fail
        go_ret
        have hlen : k = n := by omega
        subst hlen
        exact ⟨rfl, ⟨hle, Or.inr ⟨g, rfl, hg, HO.out.congr (fun i hi => by simp only [mixQ]; rw [if_pos hi])⟩⟩, HB.out⟩

set_option maxRecDepth 100000 in
set_option maxHeartbeats 1000000 in
theorem heldStringS_any (a : Option Addr) (n cap : Nat) (w : World) (h : InS w a n (fun i => mkT (1 + i))) (hn : n ≤ 1000) (hc : n ≤ cap) :
    Calls Tryd.prog 28 #[.slice a n cap, .int .i64 1] w fun e w' => e = .returned (.int .i64 (1 + n)) ∧ Below w.heap.size w w' := by
  have HK := Lib.hid (fun w' (hb : Below w.heap.size w w') => h.below hb (Nat.le_refl _))
  have HB := Lib.hid (Below.refl w.heap.size w)
  clear h
  go_enter Tryd.func28, Tryd.ntmps28
  go_wp2_with fail
  go_loopw [1, 5] (fun v i w' => ∃ k : Nat, k ≤ n ∧ i = .int .i64 k ∧ v = .int .i64 (1 + k) ∧ Below w.heap.size w w') (fun _ i _ => n - (intOf i).toNat)
  case atStart => exact ⟨0, Nat.zero_le _, rfl, rfl, HB.out⟩
  case round =>
    obtain ⟨k, hk, rfl, rfl, hb⟩ := hrel
    obtain ⟨wo, rfl⟩ : ∃ wo, wo = wr := ⟨_, rfl⟩
    clear HB
    have HB := Lib.hid hb
    clear hb
    by_cases hlt : k < n
    · obtain ⟨b, off, rfl, hi⟩ : ∃ b off, a = some ⟨b, off, none⟩ ∧ StrsAt wo b off n (fun i => mkT (1 + i)) := by
        rcases HK.out _ HB.out with h0 | h0
        · omega
        · exact h0
      have cf0 := hi.c k hlt
      have hbl := hi.lt
      have x1 : (k : Int) < (n : Int) := by omega
      have HMK : Hid (∀ w1, Calls Tryd.prog 61 #[.int .i64 (1 + (k : Int))] w1 (StrPost (mkL (1 + k)) w1)) := by
        intro w1
        have := markText_any (1 + k) w1 (by omega) (by omega)
        rw [show (((1 + k : Nat)) : Int) = 1 + (k : Int) from by omega] at this
        exact this
      clear hi
      obtain ⟨X, hX⟩ : ∃ X, X = txt (mkL (1 + k)) := ⟨_, rfl⟩
      have HMX : Hid (∀ w1, Calls Tryd.prog 61 #[.int .i64 (1 + (k : Int))] w1 fun e w' => e = .returned (.string X) ∧ Below w1.heap.size w1 w') := by rw [hX]; exact HMK.out
      have cf : wo.cell? ⟨b, off + k, none⟩ = some (.string X) := by rw [hX]; exact cf0
      clear hX HMK cf0
      go_wp2_with fail
      go_region_with (go_at_call 61; ((with_reducible refine (HMX.out _).mono ?_); rintro e w1 ⟨rfl, hb⟩; have cf1 : w1.cell? ⟨b, off + k, none⟩ = some (.string X) := (hb.cell (p := ⟨b, off + k, none⟩) hbl).trans cf; have HB1 := Lib.hid hb; clear hb))
      all_goals
        go_wp2_with fail
        go_roundw
        case rel => exact ⟨k + 1, by omega, by go_num, by go_num, bT (HB.out.drew) HB1.out⟩
        case measure => simp [intOf]; omega
    · go_wp2_with fail
      go_ret
      have hlen : k = n := by omega
      subst hlen
      exact ⟨rfl, HB.out⟩

end My
end Go.Proofs.YtopijgkmgpkmnaaDoor
