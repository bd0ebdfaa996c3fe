/- Slices of strings in memory; the exact laws' helpers on them. -/
import Derived.Test.YtopijgkmgpkmnaaDoorEnv
import Derived.WalkSmall
import Derived.Deep.OwnRows
import Derived.StillTailTactics
import Derived.Laws.ResultCell
import Derived.OwnWalk
namespace Go.Proofs.YtopijgkmgpkmnaaDoor
open Go.RowKit Go.Deep
set_option linter.unusedVariables false
namespace My

/-- n texts lie in a row of cells. -/
structure StrsAt (w : World) (b off n : Nat) (F : Nat → ByteArray) : Prop where
  c : ∀ i, i < n → w.cell? ⟨b, off + i, none⟩ = some (.string (F i))
  lt : b < w.heap.size
theorem StrsAt.below {w w' : World} {b off n B : Nat} {F : Nat → ByteArray} (h : StrsAt w b off n F) (hb : Below B w w') (hB : w.heap.size ≤ B) : StrsAt w' b off n F :=
  ⟨fun i hi => (hb.cell (p := ⟨b, off + i, none⟩) (Nat.lt_of_lt_of_le h.lt hB)).trans (h.c i hi), Nat.lt_of_lt_of_le h.lt hb.size⟩
def InS (w : World) (a : Option Addr) (n : Nat) (F : Nat → ByteArray) : Prop := n = 0 ∨ ∃ b off, a = some ⟨b, off, none⟩ ∧ StrsAt w b off n F
theorem InS.below {w w' : World} {a : Option Addr} {n B : Nat} {F : Nat → ByteArray} (h : InS w a n F) (hb : Below B w w') (hB : w.heap.size ≤ B) : InS w' a n F := by
  rcases h with h | ⟨b, off, e, k⟩
  · exact Or.inl h
  · exact Or.inr ⟨b, off, e, k.below hb hB⟩
theorem InS.drewN {w : World} {a : Option Addr} {n : Nat} {F : Nat → ByteArray} (h : InS w a n F) (z : Nat) : InS (w.drewN z) a n F := h.below (below_drewN (Below.refl w.heap.size w) z) (Nat.le_refl _)
/-- n texts lie at the head of a block that may be written. -/
def OwnT (w : World) (g n : Nat) (F : Nat → ByteArray) : Prop := ∃ t cur, w.heap[g]? = some (.cells cur t (0, 0)) ∧ ∀ i, i < n → cur[i]? = some (.string (F i))
theorem OwnT.cell {w : World} {g n : Nat} {F : Nat → ByteArray} (h : OwnT w g n F) {i : Nat} (hi : i < n) : w.cell? ⟨g, i, none⟩ = some (.string (F i)) := by
  obtain ⟨t, cur, hh, hc⟩ := h
  simp only [World.cell?, hh]; exact hc i hi
theorem OwnT.frozen {w : World} {g n : Nat} {F : Nat → ByteArray} (h : OwnT w g n F) (i : Nat) : w.frozen? ⟨g, i, none⟩ = false := by
  obtain ⟨t, cur, hh, hc⟩ := h
  simp [World.frozen?, hh]
theorem OwnT.lt {w : World} {g n : Nat} {F : Nat → ByteArray} (h : OwnT w g n F) : g < w.heap.size := by
  obtain ⟨t, cur, hh, hc⟩ := h
  by_cases hx : g < w.heap.size
  · exact hx
  · rw [Array.getElem?_eq_none (by omega)] at hh; cases hh
theorem OwnT.strs {w : World} {g n : Nat} {F : Nat → ByteArray} (h : OwnT w g n F) : StrsAt w g 0 n F :=
  ⟨fun i hi => by rw [Nat.zero_add]; exact h.cell hi, h.lt⟩
theorem OwnT.inS {w : World} {g n : Nat} {F : Nat → ByteArray} (h : OwnT w g n F) : InS w (some ⟨g, 0, none⟩) n F := Or.inr ⟨g, 0, rfl, h.strs⟩
theorem OwnT.of_block {w w' : World} {g n : Nat} {F : Nat → ByteArray} (h : OwnT w g n F) (e : w'.heap[g]? = w.heap[g]?) : OwnT w' g n F := by
  obtain ⟨t, cur, hh, hc⟩ := h
  exact ⟨t, cur, e.trans hh, hc⟩
theorem OwnT.below {w w' : World} {g n B : Nat} {F : Nat → ByteArray} (h : OwnT w g n F) (hb : Below B w w') (hB : w.heap.size ≤ B) : OwnT w' g n F :=
  h.of_block (hb.block g (Nat.lt_of_lt_of_le h.lt hB))
def setT (F : Nat → ByteArray) (i : Nat) (v : ByteArray) : Nat → ByteArray := fun j => if j = i then v else F j
theorem OwnT.set {w : World} {g n : Nat} {F : Nat → ByteArray} (h : OwnT w g n F) (i : Nat) (v : ByteArray) : OwnT (w.setCell ⟨g, i, none⟩ (.string v)) g n (setT F i v) := by
  obtain ⟨t, cur, hh, hc⟩ := h
  refine ⟨t, cur.setIfInBounds i (.string v), ?_, ?_⟩
  · simp [World.setCell, Array.getElem?_modify, hh]
  · intro j hj
    rw [Array.getElem?_setIfInBounds]
    by_cases e : i = j
    · subst e
      have : i < cur.size := by
        by_cases hx : i < cur.size
        · exact hx
        · have := hc i hj; rw [Array.getElem?_eq_none (by omega)] at this; cases this
      simp [this, setT]
    · have e' : ¬ j = i := fun h => e h.symm
      simp [e, setT, e', hc j hj]
theorem OwnT.congr {w : World} {g n : Nat} {F F' : Nat → ByteArray} (h : OwnT w g n F) (e : ∀ i, i < n → F i = F' i) : OwnT w g n F' := by
  obtain ⟨t, cur, hh, hc⟩ := h
  exact ⟨t, cur, hh, fun i hi => by rw [hc i hi, e i hi]⟩
theorem infoStr : (Tryd.prog.info? 9).map (fun i => (i.zero, i.size, i.bytes)) = some (some (.string ⟨#[]⟩), 1, 16) := by kernel_rfl
theorem run_makeS (n : Nat) (hn : n ≤ 1048576) (w : World) :
    (Instr.makeSlice 22 (.int .i64 (n : Int)) (.int .i64 (n : Int))).run Tryd.prog w = .ok (.slice (some ⟨w.heap.size, 0, none⟩) n n) (w.alloc (.cells (madeCells #[.string ⟨#[]⟩] n) 9)) := by
  obtain ⟨i, hi, h0, h1, h2⟩ := info_parts infoStr
  have hr := run_make (P := Tryd.prog) w 22 9 i (.string ⟨#[]⟩) Tryd.underlying22 hi h0 .i64 .i64 (n : Int) (n : Int) (by omega) (by omega) (by rw [h2]; omega) (by omega)
  simpa [h1, Value.cells] using hr
theorem own_madeS (w : World) (n : Nat) : OwnT (w.alloc (.cells (madeCells #[.string ⟨#[]⟩] n) 9)) w.heap.size n (fun _ => ⟨#[]⟩) := by
  refine ⟨9, _, blk_alloc_new _ _, fun i hi => ?_⟩
  simp [madeCells, hi, Nat.mod_one]

def sumZ (F : Nat → ByteArray) : Nat → Nat
  | 0 => 0
  | k + 1 => sumZ F k + (F k).size
theorem sumZ_le {F : Nat → ByteArray} {n : Nat} : ∀ d k, k + d = n → sumZ F k ≤ sumZ F n
  | 0, k, h => by rw [show k = n from by omega]; exact Nat.le_refl _
  | d + 1, k, h => by
    have := sumZ_le (F := F) (n := n) d (k + 1) (by omega)
    simp only [sumZ] at this
    omega
theorem sumZ_part {F : Nat → ByteArray} {n k : Nat} (h : k ≤ n) : sumZ F k ≤ sumZ F n := sumZ_le (n - k) k (by omega)
theorem sumZ_each {F : Nat → ByteArray} {n k : Nat} (h : k < n) : (F k).size ≤ sumZ F n := by
  have := sumZ_part (F := F) (n := n) (k := k + 1) (by omega)
  simp only [sumZ] at this
  omega

/-- Strings that came in: as the exact laws' size says. -/
def SzPost (left : Int) (n : Nat) (F : Nat → ByteArray) (w : World) (e : Ending) (w' : World) : Prop :=
  ∃ r : Int, e = .returned (.int .i64 r) ∧ (0 ≤ r → r = left - n - sumZ F n) ∧ r ≤ left ∧ -1 ≤ r ∧ w' = w

set_option maxHeartbeats 1000000 in
theorem szStringS_any (a : Option Addr) (n cap : Nat) (left : Int) (F : Nat → ByteArray) (w : World) (h : InS w a n F) (h0 : 0 ≤ left) (h1 : left ≤ 1048576) (hn : n ≤ 9223372036854775807) (hc : n ≤ cap) (hF : ∀ i, i < n → (F i).size ≤ 9223372036854775807) :
    Calls Tryd.prog 12 #[.slice a n cap, .int .i64 left] w (SzPost left n F w) := by
  have H := Lib.hid h
  have HF := Lib.hid hF
  clear h hF
  by_cases hl : left - n < 0
  · go_enter Tryd.func12, Tryd.ntmps12
    go_wp2_with fail
    go_ret
    exact ⟨-1, rfl, by omega, by omega, by omega, rfl⟩
  · go_enter Tryd.func12, Tryd.ntmps12
    go_wp2_with fail
    go_loop [1, 5] (fun l i => ∃ k : Nat, k ≤ n ∧ i = .int .i64 k ∧ ∃ L : Int, l = .int .i64 L ∧ 0 ≤ L ∧ L = left - n - sumZ F k) (fun _ i => n - (intOf i).toNat)
    case atStart => exact ⟨0, Nat.zero_le _, rfl, left - n, rfl, by omega, by simp [sumZ]⟩
    case round =>
      obtain ⟨k, hk, rfl, L, rfl, hL, hLe⟩ := hrel
      have HLE := Lib.hid hLe
      have hL1 : L ≤ 1048576 := by omega
      have hL2 : L ≤ left := by omega
      clear hLe
      by_cases hlt : k < n
      · obtain ⟨b, off, rfl, hi⟩ : ∃ b off, a = some ⟨b, off, none⟩ ∧ StrsAt w b off n F := by
          rcases H.out with h0 | h0
          · omega
          · exact h0
        have cf := hi.c k hlt
        have hfk := HF.out k hlt
        have HS : Hid (sumZ F (k + 1) = sumZ F k + (F k).size) := rfl
        clear hi
        by_cases hneg : L - ((F k).size : Int) < 0
        · go_wp2_with fail
          go_ret
          exact ⟨-1, rfl, by omega, by omega, by omega, rfl⟩
        · go_wp2_with fail
          go_round
          case rel => exact ⟨k + 1, by omega, by go_num, _, rfl, by omega, by have := HLE.out; have := HS.out; omega⟩
          case measure => simp [intOf]; omega
      · have e : k = n := by omega
        subst e
        go_wp2_with fail
        go_ret
        exact ⟨L, rfl, fun _ => HLE.out, hL2, by omega, rfl⟩

def mixT (F : Nat → ByteArray) (k i : Nat) : ByteArray := if i < k then F i else ⟨#[]⟩
theorem mixT_set {F : Nat → ByteArray} {k : Nat} (i : Nat) : setT (mixT F k) k (F k) i = mixT F (k + 1) i := by
  simp only [setT, mixT]
  by_cases h : i = k
  · subst h; simp
  · rw [if_neg h]
    by_cases h2 : i < k
    · rw [if_pos h2, if_pos (by omega)]
    · rw [if_neg h2, if_neg (by omega)]

set_option maxHeartbeats 1000000 in
theorem toStringS_any (a : Option Addr) (n cap : Nat) (F : Nat → ByteArray) (w : World) (h : InS w a n F) (hn : n ≤ 1048576) (hc : n ≤ cap) :
    Calls Tryd.prog 14 #[.slice a n cap] w fun e w' => e = .returned (.slice (some ⟨w.heap.size, 0, none⟩) n n) ∧ OwnT w' w.heap.size n F ∧ Below w.heap.size w w' := by
  have hkeep : ∀ w', Below w.heap.size w w' → InS w' a n F := fun w' hb => h.below hb (Nat.le_refl _)
  have HK := Lib.hid hkeep
  have HB := Lib.hid (Below.refl w.heap.size w)
  clear h hkeep
  have hmk := run_makeS n hn
  have HR0 := Lib.hid (own_madeS w n)
  go_enter Tryd.func14, Tryd.ntmps14
  go_wp2_with fail
  go_loopw [4] (fun i w' => ∃ k : Nat, k ≤ n ∧ i = .int .i64 k ∧ OwnT w' w.heap.size n (mixT F k) ∧ Below w.heap.size w w') (fun i _ => n - (intOf i).toNat)
  case atStart => exact ⟨0, Nat.zero_le _, rfl, HR0.out.congr (fun i _ => rfl), (by repeat (first | exact HB.out | exact Below.refl _ _ | apply below_drewN | apply Below.drew | refine Below.alloc ?_ (by have := HB.out.size; first | omega | (simp; done) | (simp; omega)) _))⟩
  case round =>
    obtain ⟨k, hk, rfl, hrow, hbel⟩ := hrel
    clear HB
    have HB := Lib.hid hbel
    have HR := Lib.hid hrow
    clear hbel hrow
    by_cases hlt : k < n
    · obtain ⟨b, off, rfl, hi⟩ : ∃ b off, a = some ⟨b, off, none⟩ ∧ StrsAt wr b off n F := by
        rcases HK.out _ HB.out with h0 | h0
        · omega
        · exact h0
      have cf := hi.c k hlt
      have cr := HR.out.cell hlt
      have fr := HR.out.frozen k
      clear hi
      go_wp2_with fail
      go_roundw
      case rel => exact ⟨k + 1, hlt, by go_num, (HR.out.set k _).congr (fun i _ => mixT_set i), HB.out.setCell (by simp) _⟩
      case measure => simp [intOf]; omega
    · go_wp2_with fail
      go_ret
      have hlen : k = n := by omega
      subst hlen
      exact ⟨rfl, HR.out.congr (fun i hi => by simp only [mixT]; rw [if_pos hi]), HB.out⟩

set_option maxHeartbeats 1000000 in
theorem eqStringS_same (a a' : Option Addr) (n cap cap' : Nat) (F : Nat → ByteArray) (w : World) (h : InS w a n F) (h' : InS w a' n F) (hn : n ≤ 1048576) (hc : n ≤ cap) (hc' : n ≤ cap') :
    Calls Tryd.prog 16 #[.slice a n cap, .slice a' n cap'] w fun e w' => e = .returned (.bool true) ∧ ∃ z, w' = w.drewN z := by
  have H := Lib.hid h
  have H' := Lib.hid h'
  clear h h'
  go_enter Tryd.func16, Tryd.ntmps16
  go_wp2_with fail
  go_loopw [5] (fun i w' => ∃ k z : Nat, k ≤ n ∧ i = .int .i64 k ∧ w' = w.drewN z) (fun i _ => n - (intOf i).toNat)
  case atStart => exact ⟨0, 0, Nat.zero_le _, rfl, rfl⟩
  case round =>
    obtain ⟨k, z, hk, rfl, rfl⟩ := hrel
    by_cases hlt : k < n
    · obtain ⟨b, off, rfl, hi⟩ : ∃ b off, a = some ⟨b, off, none⟩ ∧ StrsAt w b off n F := by
        rcases H.out with h0 | h0
        · omega
        · exact h0
      obtain ⟨b', off', rfl, hi'⟩ : ∃ b off, a' = some ⟨b, off, none⟩ ∧ StrsAt w b off n F := by
        rcases H'.out with h0 | h0
        · omega
        · exact h0
      have cf := hi.c k hlt
      have cf' := hi'.c k hlt
      have x1 : (k : Int) < (n : Int) := by omega
      clear hi hi'
      go_wp2_with fail
      go_quiet (fail)
      go_wp2_with fail
      go_roundw
      case rel => exact ⟨k + 1, _, by omega, by go_num, rfl⟩
      case measure => simp [intOf]; omega
    · go_wp2_with fail
      go_ret
      exact ⟨rfl, z, rfl⟩

end My
end Go.Proofs.YtopijgkmgpkmnaaDoor
