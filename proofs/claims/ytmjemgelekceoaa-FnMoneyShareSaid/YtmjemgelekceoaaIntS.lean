/- The exact laws' own helpers on slices of ints. -/
import Derived.Test.YtmjemgelekceoaaShareI
import Derived.Test.YtmjemgelekceoaaDraw
namespace Go.Proofs.Ytmjemgelekceoaa
open Go.RowKit Go.Deep
set_option linter.unusedVariables false
namespace My

/-- What a slice of ints holds. -/
def InI (w : World) (a : Option Addr) (n : Nat) (f : Nat → Int) : Prop := n = 0 ∨ ∃ b off, a = some ⟨b, off, none⟩ ∧ IntsAt w b off n f
theorem InI.below {w w' : World} {a : Option Addr} {n B : Nat} {f : Nat → Int} (h : InI w a n f) (hb : Below B w w') (hB : w.heap.size ≤ B) : InI w' a n f := by
  rcases h with h | ⟨b, off, h, k⟩
  · exact Or.inl h
  · exact Or.inr ⟨b, off, h, k.below hb hB⟩
/-- What a slice of ints of its own holds, behind base. -/
structure OwnS (base : Nat) (w : World) (a : Option Addr) (m c : Nat) (f : Nat → Int) : Prop where
  le : m ≤ c
  own : m = 0 ∨ ∃ g, a = some ⟨g, 0, none⟩ ∧ base ≤ g ∧ OwnI w g m f
theorem OwnS.inI {base : Nat} {w : World} {a : Option Addr} {m c : Nat} {f : Nat → Int} (h : OwnS base w a m c f) : InI w a m f := by
  rcases h.own with h | ⟨g, e, _, k⟩
  · exact Or.inl h
  · exact Or.inr ⟨g, 0, e, k.ints⟩
theorem OwnS.below {base B : Nat} {w w' : World} {a : Option Addr} {m c : Nat} {f : Nat → Int} (h : OwnS base w a m c f) (hb : Below B w w') (hB : w.heap.size ≤ B) : OwnS base w' a m c f := by
  refine ⟨h.le, ?_⟩
  rcases h.own with h | ⟨g, e, k, o⟩
  · exact Or.inl h
  · exact Or.inr ⟨g, e, k, o.below hb hB⟩
theorem OwnS.only {base G : Nat} {w w' : World} {a : Option Addr} {m c : Nat} {f : Nat → Int} (h : OwnS base w a m c f) (hb : Only G w w') (hG : G < base) : OwnS base w' a m c f := by
  refine ⟨h.le, ?_⟩
  rcases h.own with h | ⟨g, e, k, o⟩
  · exact Or.inl h
  · exact Or.inr ⟨g, e, k, o.of_block (hb.block g o.lt (by simp; omega))⟩
theorem OwnS.lower {base base' : Nat} {w : World} {a : Option Addr} {m c : Nat} {f : Nat → Int} (h : OwnS base w a m c f) (hb : base' ≤ base) : OwnS base' w a m c f := by
  refine ⟨h.le, ?_⟩
  rcases h.own with h | ⟨g, e, k, o⟩
  · exact Or.inl h
  · exact Or.inr ⟨g, e, Nat.le_trans hb k, o⟩
theorem ownS_of {w w' : World} {n : Nat} {F : Nat → Int} {v : Value} (h : SlRes w n F v w') : ∃ a c, v = .slice a n c ∧ OwnS w.heap.size w' a n c F ∧ Below w.heap.size w w' := by
  obtain ⟨g, c, rfl, hg, hn, hc, ho, hb⟩ := h
  exact ⟨_, c, rfl, ⟨hn, Or.inr ⟨g, rfl, hg, ho⟩⟩, hb⟩
theorem ownS_ofI {w w' : World} {n : Nat} {F : Nat → Int} {v : Value} (h : SlResI w n F v w') : ∃ a c, v = .slice a n c ∧ OwnS w.heap.size w' a n c F ∧ Below w.heap.size w w' := by
  rcases h with ⟨rfl, rfl, hb⟩ | h
  · exact ⟨_, _, rfl, ⟨Nat.le_refl _, Or.inl rfl⟩, hb⟩
  · exact ownS_of h

theorem own_made' (w : World) (n : Nat) : OwnI (w.alloc (.cells (madeCells #[.int .i64 0] n) 3)) w.heap.size n (fun _ => 0) := by
  have h := own_made w n 3
  rwa [Nat.mul_one] at h

set_option maxHeartbeats 1000000 in
theorem toIntS_any (a : Option Addr) (n cap : Nat) (ws : Nat → Int) (w : World) (h : InI w a n ws) (hn : n ≤ 1048576) (hc : n ≤ cap) :
    Calls Try.prog 9 #[.slice a n cap] w fun e w' => e = .returned (.slice (some ⟨w.heap.size, 0, none⟩) n n) ∧ OwnI w' w.heap.size n ws ∧ Below w.heap.size w w' := by
  have hkeep : ∀ w', Below w.heap.size w w' → InI w' a n ws := fun w' hb => h.below hb (Nat.le_refl _)
  have HK := Lib.hid hkeep
  have HB := Lib.hid (Below.refl w.heap.size w)
  clear h hkeep
  have hmk := run_makeI (P := Try.prog) 22 3 (.int .i64 0) 1 8 rfl infoInt n (by omega) (by omega)
  have HR0 := Lib.hid (own_made' w n)
  go_enter Try.func9, Try.ntmps9
  go_wp2_with fail
  go_loopw [4] (fun i w' => ∃ k : Nat, k ≤ n ∧ i = .int .i64 k ∧ OwnI w' w.heap.size n (mixF ws k) ∧ Below w.heap.size w w') (fun i _ => n - (intOf i).toNat)
  case atStart => exact ⟨0, Nat.zero_le _, rfl, HR0.out.congr (fun i _ => rfl), (by repeat (first | exact HB.out | exact Below.refl _ _ | apply below_drewN | apply Below.drew | refine Below.alloc ?_ (by have := HB.out.size; first | omega | (simp; done) | (simp; omega)) _))⟩
  case round =>
    obtain ⟨k, hk, rfl, hrow, hbel⟩ := hrel
    clear HB
    have HB := Lib.hid hbel
    have HR := Lib.hid hrow
    clear hbel hrow
    by_cases hlt : k < n
    · obtain ⟨b, off, rfl, hi⟩ : ∃ b off, a = some ⟨b, off, none⟩ ∧ IntsAt wr b off n ws := by
        rcases HK.out _ HB.out with h0 | h0
        · omega
        · exact h0
      have cf := hi.c k hlt
      have cr := HR.out.cell hlt
      have fr := HR.out.frozen k
      clear hi
      go_wp2_with fail
      go_roundw
      case rel => exact ⟨k + 1, hlt, by go_num, (HR.out.set k _).congr (fun i _ => mixF_set i), HB.out.setCell (by simp) _⟩
      case measure => simp [intOf]; omega
    · go_wp2_with fail
      go_ret
      have hlen : k = n := by omega
      subst hlen
      exact ⟨rfl, HR.out.congr (fun i hi => by simp only [mixF]; rw [if_pos hi]), HB.out⟩

set_option maxHeartbeats 1000000 in
theorem eqIntS_same (a a' : Option Addr) (n cap cap' : Nat) (f : Nat → Int) (w : World) (h : InI w a n f) (h' : InI w a' n f) (hn : n ≤ 1048576) (hc : n ≤ cap) (hc' : n ≤ cap') :
    Calls Try.prog 11 #[.slice a n cap, .slice a' n cap'] w fun e w' => e = .returned (.bool true) ∧ ∃ z, w' = w.drewN z := by
  have H := Lib.hid h
  have H' := Lib.hid h'
  clear h h'
  go_enter Try.func11, Try.ntmps11
  go_wp2_with fail
  go_loopw [5] (fun i w' => ∃ k z : Nat, k ≤ n ∧ i = .int .i64 k ∧ w' = w.drewN z) (fun i _ => n - (intOf i).toNat)
  case atStart => exact ⟨0, 0, Nat.zero_le _, rfl, rfl⟩
  case round =>
    obtain ⟨k, z, hk, rfl, rfl⟩ := hrel
    by_cases hlt : k < n
    · obtain ⟨b, off, rfl, hi⟩ : ∃ b off, a = some ⟨b, off, none⟩ ∧ IntsAt w b off n f := by
        rcases H.out with h0 | h0
        · omega
        · exact h0
      obtain ⟨b', off', rfl, hi'⟩ : ∃ b off, a' = some ⟨b, off, none⟩ ∧ IntsAt w b off n f := by
        rcases H'.out with h0 | h0
        · omega
        · exact h0
      have cf := hi.c k hlt
      have cf' := hi'.c k hlt
      have x1 : (k : Int) < (n : Int) := by omega
      have ff : (f k != f k) = false := by simp
      clear hi hi'
      go_wp2_with fail
      go_quiet (fail)
      go_wp2_with fail
      go_roundw
      case rel => exact ⟨k + 1, _, by omega, by go_num, rfl⟩
      case measure => simp [intOf]; omega
    · go_wp2_with fail
      go_ret
      exact ⟨rfl, z, rfl⟩

def mixM (f : Nat → Int) (k i : Nat) : Int := if i < k then 1 + i else f i
theorem mixM_set {f : Nat → Int} {k : Nat} (i : Nat) : setF (mixM f k) k (1 + k) i = mixM f (k + 1) i := by
  simp only [setF, mixM]
  by_cases h : i = k
  · subst h; simp
  · rw [if_neg h]
    by_cases h2 : i < k
    · rw [if_pos h2, if_pos (by omega)]
    · rw [if_neg h2, if_neg (by omega)]
theorem Only.setCell {R : Nat} {a b : World} (h : Only R a b) (i : Nat) (v : Value) : Only R a (b.setCell ⟨R, i, none⟩ v) :=
  ⟨h.os, h.tape, h.output, by simpa using h.size, fun k hk hne => (Below.heap_setCell b _ v k (by simpa using fun e => hne (by simp [e]))).trans (h.block k hk hne)⟩

set_option maxHeartbeats 1000000 in
theorem markIntS_any (base : Nat) (a : Option Addr) (n cap : Nat) (f : Nat → Int) (w : World) (h : OwnS base w a n cap f) (hn : n ≤ 1048576) :
    Calls Try.prog 12 #[.slice a n cap, .int .i64 1] w fun e w' => e = .returned (.int .i64 (1 + n)) ∧ OwnS base w' a n cap (fun i => 1 + i) ∧ Below base w w' ∧ ∀ g, a = some ⟨g, 0, none⟩ → Only g w w' := by
  have hle := h.le
  rcases h.own with h0 | ⟨g, rfl, hg, ho⟩
  · subst h0
    clear h
    go_enter Try.func12, Try.ntmps12
    go_wp2_with fail
    go_loopw [1, 5] (fun v i w' => i = .int .i64 0 ∧ v = .int .i64 1 ∧ w' = w) (fun _ _ _ => 0)
    case atStart => exact ⟨rfl, rfl, rfl⟩
    case round =>
      obtain ⟨rfl, rfl, rfl⟩ := hrel
      go_wp2_with fail
      go_ret
      exact ⟨rfl, ⟨hle, Or.inl rfl⟩, Below.refl _ _, fun g _ => Only.refl _ _⟩
  · have HO := Lib.hid ho
    clear h ho
    go_enter Try.func12, Try.ntmps12
    go_wp2_with fail
    go_loopw [1, 5] (fun v i w' => ∃ k : Nat, k ≤ n ∧ i = .int .i64 k ∧ v = .int .i64 (1 + k) ∧ OwnI w' g n (mixM f k) ∧ Below base w w' ∧ Only g w w') (fun _ i _ => n - (intOf i).toNat)
    case atStart => exact ⟨0, Nat.zero_le _, rfl, rfl, HO.out.congr (fun i _ => rfl), Below.refl _ _, Only.refl _ _⟩
    case round =>
      obtain ⟨k, hk, rfl, rfl, ho, hb, hon⟩ := hrel
      clear HO
      have HO := Lib.hid ho
      have HB := Lib.hid hb
      have HN := Lib.hid hon
      clear ho hb hon
      by_cases hlt : k < n
      · have ck := HO.out.cell hlt
        have fk := HO.out.frozen k
        go_wp2_with fail
        go_roundw
        case rel => exact ⟨k + 1, hlt, by go_num, by go_num, (HO.out.set k _).congr (fun i _ => mixM_set i), HB.out.setCell hg _, HN.out.setCell _ _⟩
        case measure => simp [intOf]; omega
      · go_wp2_with fail
        go_ret
        have hlen : k = n := by omega
        subst hlen
        exact ⟨rfl, ⟨hle, Or.inr ⟨g, rfl, hg, HO.out.congr (fun i hi => by simp only [mixM]; rw [if_pos hi])⟩⟩, HB.out, fun g' hg' => by cases hg'; exact HN.out⟩

set_option maxHeartbeats 1000000 in
theorem heldIntS_any (a : Option Addr) (n cap : Nat) (w : World) (h : InI w a n (fun i => 1 + i)) (hn : n ≤ 1048576) (hc : n ≤ cap) :
    Calls Try.prog 13 #[.slice a n cap, .int .i64 1] w fun e w' => e = .returned (.int .i64 (1 + n)) ∧ ∃ z, w' = w.drewN z := by
  have H := Lib.hid h
  clear h
  go_enter Try.func13, Try.ntmps13
  go_wp2_with fail
  go_loopw [1, 5] (fun v i w' => ∃ k z : Nat, k ≤ n ∧ i = .int .i64 k ∧ v = .int .i64 (1 + k) ∧ w' = w.drewN z) (fun _ i _ => n - (intOf i).toNat)
  case atStart => exact ⟨0, 0, Nat.zero_le _, rfl, rfl, rfl⟩
  case round =>
    obtain ⟨k, z, hk, rfl, rfl, rfl⟩ := hrel
    by_cases hlt : k < n
    · obtain ⟨b, off, rfl, hi⟩ : ∃ b off, a = some ⟨b, off, none⟩ ∧ IntsAt w b off n (fun i => 1 + i) := by
        rcases H.out with h0 | h0
        · omega
        · exact h0
      have cf := hi.c k hlt
      have x1 : (k : Int) < (n : Int) := by omega
      clear hi
      go_wp2_with fail
      go_roundw
      case rel => exact ⟨k + 1, _, by omega, by go_num, by go_num, rfl⟩
      case measure => simp [intOf]; omega
    · go_wp2_with fail
      go_ret
      have hlen : k = n := by omega
      subst hlen
      exact ⟨rfl, z, rfl⟩

end My
end Go.Proofs.Ytmjemgelekceoaa
