/- The contracts of the exact laws' own helpers on marks: their size, their copy, whether two lists are the same. -/
import Derived.Test.YtdoiklcaiafcpaaTieS
import Derived.Deep.OwnRows
import Derived.StillTailTactics
import Derived.Laws.ResultCell
namespace Go.Proofs.Ytdoiklcaiafcpaa
open Go.RowKit Go.Deep
set_option linter.unusedVariables false
namespace My

theorem infoMark : (Try.prog.info? 42).map (fun i => (i.zero, i.size, i.bytes)) = some (some (.agg #[.int .i64 0, .int .i64 0]), 2, 16) := by kernel_rfl

/-- A row of made cells. -/
theorem rowIs_madeZ (w : World) (z : Array Value) (n : Nat) (t : TypeId) : (w.alloc (.cells (madeCells z n) t)).rowIs w.heap.size t n (fun i => z[i % z.size]!) := by
  have h := World.rowIs_alloc w (madeCells z n) t (fun i => z[i % z.size]!) (by
    intro i hi
    simp only [size_madeCells] at hi
    simp [madeCells, hi])
  rwa [size_madeCells] at h

/-- make([]T, n), as an equation for every world. -/
theorem run_makeN {P : Program} (t e : TypeId) (z : Value) (size bytes : Nat) (ht : P.underlying t = some (.slice e)) (hinfo : (P.info? e).map (fun i => (i.zero, i.size, i.bytes)) = some (some z, size, bytes))
    (n : Nat) (hb : bytes * n ≤ 281474976710656) (hn : n ≤ 9223372036854775807) (w : World) :
    (Instr.makeSlice t (.int .i64 (n : Int)) (.int .i64 (n : Int))).run P w = .ok (.slice (some ⟨w.heap.size, 0, none⟩) n n) (w.alloc (.cells (madeCells z.cells (n * size)) e)) := by
  obtain ⟨i, hi, h0, h1, h2⟩ := info_parts hinfo
  have hr := run_make (P := P) w t e i z ht hi h0 .i64 .i64 (n : Int) (n : Int) (by omega) (by omega) (by rw [h2]; omega) (by omega)
  simpa [h1] using hr

def szN (left : Int) (n : Nat) : Int := if left - n < 0 then -1 else left - n
theorem szN_neg {left : Int} {n : Nat} (h : left - n < 0) : szN left n = -1 := by unfold szN; rw [if_pos h]
theorem szN_nn {left : Int} {n : Nat} (h : 0 ≤ left - n) : szN left n = left - n := by unfold szN; rw [if_neg (by omega)]

theorem szMarkS_any (a : Option Addr) (n cap : Nat) (left : Int) (w : World) (h0 : 0 ≤ left) (h1 : left ≤ 1048576) (hn : n ≤ 9223372036854775807) :
    Calls Try.prog 28 #[.slice a n cap, .int .i64 left] w fun e w' => e = .returned (.int .i64 (szN left n)) ∧ w = w' := by
  by_cases h : left - n < 0
  · go_enter Try.func28, Try.ntmps28
    go_wp2_with fail
    go_ret
    exact ⟨ret_int (szN_neg h).symm, rfl⟩
  · go_enter Try.func28, Try.ntmps28
    go_wp2_with fail
    go_ret
    exact ⟨ret_int (szN_nn (by omega)).symm, rfl⟩

theorem toMark_any (x y : Int) (w : World) :
    Calls Try.prog 44 #[.agg #[.int .i64 x, .int .i64 y]] w fun e w' => e = .returned (.agg #[.int .i64 x, .int .i64 y]) ∧ Below w.heap.size w w' := by
  have HB := Lib.hid (Below.refl w.heap.size w)
  go_enter Try.func44, Try.ntmps44
  go_wp2_with fail
  exact bodyPost_ret (v := .agg #[.int .i64 x, .int .i64 y]) (by simp [results, Try.results44, go_sem]) rfl ⟨rfl, (by repeat (first | exact HB.out | exact Below.refl _ _ | apply below_drewN | apply Below.drew | refine Below.alloc ?_ (by have := HB.out.size; first | omega | (simp; done) | (simp; omega)) _))⟩

theorem eqMark_any (x y x' y' : Int) (w : World) :
    Calls Try.prog 45 #[.agg #[.int .i64 x, .int .i64 y], .agg #[.int .i64 x', .int .i64 y']] w fun e w' => e = .returned (.bool (x == x' && y == y')) ∧ Below w.heap.size w w' := by
  have HB := Lib.hid (Below.refl w.heap.size w)
  cases hx : x == x' <;> cases hy : y == y'
  all_goals
    have hx' : (x != x') = !(x == x') := rfl
    have hy' : (y != y') = !(y == y') := rfl
    rw [hx] at hx'
    rw [hy] at hy'
    go_enter Try.func45, Try.ntmps45
    go_wp2_with fail
    go_ret
    exact ⟨rfl, (by repeat (first | exact HB.out | exact Below.refl _ _ | apply below_drewN | apply Below.drew | refine Below.alloc ?_ (by have := HB.out.size; first | omega | (simp; done) | (simp; omega)) _))⟩

/-- The cells of a row of marks. -/
def markCell (ms : List (Int × Int)) (j : Nat) : Value := if j % 2 = 0 then .int .i64 (mF ms (j / 2)) else .int .i64 (mP ms (j / 2))
def markCellTo (ms : List (Int × Int)) (k j : Nat) : Value := if j < k * 2 then markCell ms j else .int .i64 0

theorem markCell_f (ms : List (Int × Int)) (k : Nat) : markCell ms (k * 2) = .int .i64 (mF ms k) := by
  unfold markCell; rw [if_pos (by omega), show k * 2 / 2 = k from by omega]
theorem markCell_p (ms : List (Int × Int)) (k : Nat) : markCell ms (k * 2 + 1) = .int .i64 (mP ms k) := by
  unfold markCell; rw [if_neg (by omega), show (k * 2 + 1) / 2 = k from by omega]

theorem marksAt_of_row {w : World} {g t : Nat} {ms : List (Int × Int)} (h : w.rowIs g t (ms.length * 2) (markCell ms)) : MarksAt w g 0 ms where
  f k hk := by rw [Nat.zero_add, h.cell (by omega), markCell_f]
  p k hk := by rw [Nat.zero_add, h.cell (by omega), markCell_p]
  lt := h.lt

theorem markRow_step {w : World} {g t n k : Nat} {ms : List (Int × Int)} (h : w.rowIs g t n (markCellTo ms k)) :
    ((w.setCell ⟨g, k * 2, none⟩ (.int .i64 (mF ms k))).setCell ⟨g, k * 2 + 1, none⟩ (.int .i64 (mP ms k))).rowIs g t n (markCellTo ms (k + 1)) := by
  refine ((h.set _ _).set _ _).congr ?_
  intro j hj
  by_cases e1 : j = k * 2 + 1
  · subst e1
    rw [if_pos rfl]; unfold markCellTo; rw [if_pos (by omega), markCell_p]
  · rw [if_neg e1]
    by_cases e0 : j = k * 2
    · subst e0
      rw [if_pos rfl]; unfold markCellTo; rw [if_pos (by omega), markCell_f]
    · rw [if_neg e0]; unfold markCellTo
      by_cases e : j < k * 2
      · rw [if_pos e, if_pos (by omega)]
      · rw [if_neg e, if_neg (by omega)]

set_option maxHeartbeats 1000000 in
theorem toMarkS_some (b off cap : Nat) (ms : List (Int × Int)) (w : World) (h : MarksAt w b off ms) (hl : ms.length ≤ 1048576) (hc : ms.length ≤ cap) :
    Calls Try.prog 29 #[.slice (some ⟨b, off, none⟩) ms.length cap] w fun e w' => e = .returned (.slice (some ⟨w.heap.size, 0, none⟩) ms.length ms.length) ∧ w'.rowIs w.heap.size 42 (ms.length * 2) (markCell ms) ∧ Below w.heap.size w w' := by
  have hkeep : ∀ w', Below w.heap.size w w' → MarksAt w' b off ms := fun w' hb => MarksAt.below h hb (Nat.le_refl _)
  have HK := Lib.hid hkeep
  have HB := Lib.hid (Below.refl w.heap.size w)
  have hlt := h.lt
  clear h hkeep
  have hmk := run_makeN (P := Try.prog) 37 42 _ 2 16 Try.underlying37 infoMark ms.length (by omega) (by omega)
  have HR0 : Hid ((w.alloc (.cells (madeCells (Value.cells (.agg #[.int .i64 0, .int .i64 0])) (ms.length * 2)) 42)).rowIs w.heap.size 42 (ms.length * 2) (markCellTo ms 0)) := by
    refine (rowIs_madeZ w _ _ _).congr ?_
    intro i hi
    have : i % 2 = 0 ∨ i % 2 = 1 := by omega
    rcases this with e | e <;> simp [Value.cells, markCellTo, e]
  go_enter Try.func29, Try.ntmps29
  go_wp2_with fail
  go_loopw [4] (fun i w' => ∃ k : Nat, k ≤ ms.length ∧ i = .int .i64 k ∧ w'.rowIs w.heap.size 42 (ms.length * 2) (markCellTo ms k) ∧ Below w.heap.size w w') (fun i _ => ms.length - (intOf i).toNat)
  case atStart => exact ⟨0, Nat.zero_le _, rfl, HR0.out, (by repeat (first | exact HB.out | exact Below.refl _ _ | apply below_drewN | apply Below.drew | refine Below.alloc ?_ (by have := HB.out.size; first | omega | (simp; done) | (simp; omega)) _))⟩
  case round =>
    obtain ⟨k, hk, rfl, hrow, hbel⟩ := hrel
    clear HB
    have HB := Lib.hid hbel
    have HR := Lib.hid hrow
    clear hbel hrow
    by_cases hlt : k < ms.length
    · have cf := (HK.out _ HB.out).f k hlt
      have cp := (HK.out _ HB.out).p k hlt
      go_wp2_with (go_at_call 44; ((with_reducible refine (toMark_any _ _ _).mono ?_); rintro e wD ⟨rfl, hbb⟩; have HR2 := Lib.hid (HR.out.of_block (hbb.block _ HR.out.lt)); have q0 := HR2.out.cell (i := k * 2) (by omega); have q1 := HR2.out.cell (i := k * 2 + 1) (by omega); have f0 := HR2.out.frozen (k * 2); have f1 := HR2.out.frozen (k * 2 + 1); have hbc := bT (w := w) (by repeat (first | exact HB.out | exact Below.refl _ _ | apply below_drewN | apply Below.drew | refine Below.alloc ?_ (by have := HB.out.size; first | omega | (simp; done) | (simp; omega)) _)) hbb; clear hbb HB; have HB := Lib.hid hbc; clear hbc))
      go_roundw
      case rel => exact ⟨k + 1, by omega, by go_num, markRow_step HR2.out, ((HB.out.setCell (by simp) _).setCell (by simp) _)⟩
      case measure => simp [intOf]; omega
    · go_wp2_with fail
      go_ret
      have hlen : k = ms.length := by omega
      subst hlen
      exact ⟨rfl, HR.out.congr (fun i hi => by unfold markCellTo; rw [if_pos hi]), HB.out⟩

theorem toMarkS_nil (a : Option Addr) (cap : Nat) (w : World) :
    Calls Try.prog 29 #[.slice a 0 cap] w fun e w' => e = .returned (.slice (some ⟨w.heap.size, 0, none⟩) 0 0) ∧ w'.rowIs w.heap.size 42 0 (markCell []) ∧ Below w.heap.size w w' := by
  have HB := Lib.hid (Below.refl w.heap.size w)
  have hmk : ∀ w : World, (Instr.makeSlice 37 (.int .i64 0) (.int .i64 0)).run Try.prog w = .ok (.slice (some ⟨w.heap.size, 0, none⟩) 0 0) (w.alloc (.cells (madeCells (Value.cells (.agg #[.int .i64 0, .int .i64 0])) 0) 42)) := fun w => by
    simpa using run_makeN (P := Try.prog) 37 42 _ 2 16 Try.underlying37 infoMark 0 (by omega) (by omega) w
  have HR0 : Hid ((w.alloc (.cells (madeCells (Value.cells (.agg #[.int .i64 0, .int .i64 0])) 0) 42)).rowIs w.heap.size 42 0 (markCell [])) :=
    (rowIs_madeZ w _ _ _).congr (fun i hi => by omega)
  go_enter Try.func29, Try.ntmps29
  go_wp2_with fail
  go_loopw [4] (fun i w' => i = .int .i64 0 ∧ w'.rowIs w.heap.size 42 0 (markCell []) ∧ Below w.heap.size w w') (fun _ _ => 0)
  case atStart => exact ⟨rfl, HR0.out, (by repeat (first | exact HB.out | exact Below.refl _ _ | apply below_drewN | apply Below.drew | refine Below.alloc ?_ (by have := HB.out.size; first | omega | (simp; done) | (simp; omega)) _))⟩
  case round =>
    obtain ⟨rfl, hrow, hbel⟩ := hrel
    have HR := Lib.hid hrow
    clear HB hrow
    have HB := Lib.hid hbel
    clear hbel
    go_wp2_with fail
    go_ret
    exact ⟨rfl, HR.out, HB.out⟩

theorem eqMark_same (x y : Int) (w : World) :
    Calls Try.prog 45 #[.agg #[.int .i64 x, .int .i64 y], .agg #[.int .i64 x, .int .i64 y]] w fun e w' => e = .returned (.bool true) ∧ Below w.heap.size w w' := by
  have h := eqMark_any x y x y w
  simpa using h

set_option maxHeartbeats 1000000 in
theorem eqMarkS_same (b off cap b' off' cap' : Nat) (ms : List (Int × Int)) (w : World) (h : MarksAt w b off ms) (h' : MarksAt w b' off' ms) (hl : ms.length ≤ 1048576) (hc : ms.length ≤ cap) (hc' : ms.length ≤ cap') :
    Calls Try.prog 30 #[.slice (some ⟨b, off, none⟩) ms.length cap, .slice (some ⟨b', off', none⟩) ms.length cap'] w fun e w' => e = .returned (.bool true) ∧ Below w.heap.size w w' := by
  have hkeep : ∀ w', Below w.heap.size w w' → MarksAt w' b off ms := fun w' hb => MarksAt.below h hb (Nat.le_refl _)
  have hkeep' : ∀ w', Below w.heap.size w w' → MarksAt w' b' off' ms := fun w' hb => MarksAt.below h' hb (Nat.le_refl _)
  have HK := Lib.hid hkeep
  have HK' := Lib.hid hkeep'
  have HB := Lib.hid (Below.refl w.heap.size w)
  clear h h' hkeep hkeep'
  go_enter Try.func30, Try.ntmps30
  go_wp2_with fail
  go_loopw [5] (fun i w' => ∃ k : Nat, k ≤ ms.length ∧ i = .int .i64 k ∧ Below w.heap.size w w') (fun i _ => ms.length - (intOf i).toNat)
  case atStart => exact ⟨0, Nat.zero_le _, rfl, (by repeat (first | exact HB.out | exact Below.refl _ _ | apply below_drewN | apply Below.drew | refine Below.alloc ?_ (by have := HB.out.size; first | omega | (simp; done) | (simp; omega)) _))⟩
  case round =>
    obtain ⟨k, hk, rfl, hbel⟩ := hrel
    clear HB
    have HB := Lib.hid hbel
    clear hbel
    by_cases hlt : k < ms.length
    · have cf := (HK.out _ HB.out).f k hlt
      have cp := (HK.out _ HB.out).p k hlt
      have cf' := (HK'.out _ HB.out).f k hlt
      have cp' := (HK'.out _ HB.out).p k hlt
      go_wp2_with fail
      go_still_tail 8, (by kernel_rfl)
      change wpList _ _ _ _ _ wr.drew
      go_wp2_with (go_at_call 45; ((with_reducible refine (eqMark_same _ _ _).mono ?_); rintro e wD ⟨rfl, hbb⟩; have hbc := bT (w := w) (by repeat (first | exact HB.out | exact Below.refl _ _ | apply below_drewN | apply Below.drew | refine Below.alloc ?_ (by have := HB.out.size; first | omega | (simp; done) | (simp; omega)) _)) hbb; clear hbb HB; have HB := Lib.hid hbc; clear hbc))
      go_roundw
      case rel => exact ⟨k + 1, by omega, by go_num, HB.out⟩
      case measure => simp [intOf]; omega
    · go_wp2_with fail
      go_ret
      exact ⟨rfl, HB.out⟩

end My
end Go.Proofs.Ytdoiklcaiafcpaa
