/- The reader that the drawing functions share: what it is in memory, and what one pick does. -/
import Derived.Test.YtjmlekhgnbbjoaaGreatDoorPart
import Derived.WalkSmall
import Derived.Deep.OwnRows
import Derived.Deep.RegionWith
import Derived.StillTailTactics
import Derived.Laws.ResultCell
import Derived.Laws.BitsAll
namespace Go.Proofs.YtjmlekhgnbbjoaaGreatDoor
open Go.RowKit Go.Deep
set_option linter.unusedVariables false
namespace My

/-- The reader lies in block R: its bytes, and its place p. -/
structure Rd (w : World) (R : Nat) (p : Nat) (a : Option Addr) (len cap : Nat) : Prop where
  c0 : w.cell? ⟨R, 0, none⟩ = some (.slice a len cap)
  c1 : w.cell? ⟨R, 1, none⟩ = some (.int .i64 p)
  f1 : w.frozen? ⟨R, 1, none⟩ = false
  lt : R < w.heap.size
  le : len ≤ 2000
  bytes : len = 0 ∨ ∃ b off, a = some ⟨b, off, none⟩ ∧ b ≠ R ∧ b < w.heap.size ∧ ∀ j, j < len → ∃ z : Int, w.cell? ⟨b, off + j, none⟩ = some (.int .u8 z) ∧ 0 ≤ z ∧ z ≤ 255

/-- A reader in block R that has read at most K times. -/
def RdInv (w : World) (R K : Nat) : Prop := ∃ p a len cap, p ≤ K ∧ Rd w R p a len cap
/-- Only block R may have turned, beside new blocks. -/
def Only (R : Nat) (w w' : World) : Prop := w.grownBy w' (some R)
theorem Only.refl (R : Nat) (w : World) : Only R w w := World.grownBy.refl w _
theorem Only.trans {R : Nat} {a b c : World} (h : Only R a b) (k : Only R b c) : Only R a c :=
  ⟨k.os.trans h.os, k.tape.trans h.tape, k.output.trans h.output, Nat.le_trans h.size k.size, fun i hi hne => (k.block i (Nat.lt_of_lt_of_le hi h.size) hne).trans (h.block i hi hne)⟩
theorem Only.drewN {R : Nat} {a b : World} (h : Only R a b) (n : Nat) : Only R a (b.drewN n) := ⟨h.os, h.tape, h.output, h.size, h.block⟩
theorem Only.alloc {R : Nat} {a b : World} (h : Only R a b) (o : Obj) : Only R a (b.alloc o) := h.trans (World.grownBy_alloc b o _)

theorem rd_step {w : World} {R p : Nat} {a : Option Addr} {len cap : Nat} (m : Nat) (h : Rd w R p a len cap) : Rd ((w.setCell ⟨R, 1, none⟩ (.int .i64 ((p : Int) + 1))).drewN m) R (p + 1) a len cap where
  c0 := by
    show (w.setCell ⟨R, 1, none⟩ _).cell? ⟨R, 0, none⟩ = _
    have := h.c0
    go_simp
  c1 := by
    show (w.setCell ⟨R, 1, none⟩ _).cell? ⟨R, 1, none⟩ = _
    have := h.c1
    go_simp
  f1 := by
    show (w.setCell ⟨R, 1, none⟩ _).frozen? ⟨R, 1, none⟩ = _
    have := h.f1
    go_simp
  lt := by show _ < (w.setCell ⟨R, 1, none⟩ _).heap.size; simpa [World.setCell] using h.lt
  le := h.le
  bytes := by
    rcases h.bytes with h0 | ⟨b, off, ha, hbR, hb, hz⟩
    · exact Or.inl h0
    · refine Or.inr ⟨b, off, ha, hbR, by show b < (w.setCell ⟨R, 1, none⟩ _).heap.size; simpa [World.setCell] using hb, ?_⟩
      intro j hj
      obtain ⟨z, hc, hz⟩ := hz j hj
      refine ⟨z, ?_, hz⟩
      show (w.setCell ⟨R, 1, none⟩ _).cell? ⟨b, off + j, none⟩ = _
      rw [World.cell?_of_block (w := w) (blk_setCell_other _ _ _ _ (by exact hbR))]
      exact hc
theorem only_step {w : World} {R p : Nat} {v : Value} (m : Nat) : Only R w ((w.setCell ⟨R, p, none⟩ v).drewN m) :=
  ⟨rfl, rfl, rfl, by simp [World.setCell], fun k hk hne => blk_setCell_other _ _ _ _ (fun e => hne (by rw [e]))⟩

/-- What a pick below n leaves. -/
def PickPost (n : Int) (R K : Nat) (w : World) (e : Ending) (w' : World) : Prop :=
  ∃ x : Int, e = .returned (.int .i64 x) ∧ 0 ≤ x ∧ x < n ∧ RdInv w' R (K + 1) ∧ Only R w w'

theorem bits_xor_i64_nat (a b : Nat) (ha : a < 9223372036854775808) (hb : b < 9223372036854775808) :
    bits .xor .i64 (a : Int) (b : Int) = ((a ^^^ b : Nat) : Int) := by
  have hx : a ^^^ b < 2 ^ 63 := Nat.xor_lt_two_pow (by omega) (by omega)
  have h1 : (BitVec.ofInt 64 (a : Int)).toNat = a := by
    rw [BitVec.ofInt_natCast, BitVec.toNat_ofNat]; exact Nat.mod_eq_of_lt (by omega)
  have h2 : (BitVec.ofInt 64 (b : Int)).toNat = b := by
    rw [BitVec.ofInt_natCast, BitVec.toNat_ofNat]; exact Nat.mod_eq_of_lt (by omega)
  show IntKind.i64.wrap ((BitVec.ofInt 64 (a : Int) ^^^ BitVec.ofInt 64 (b : Int)).toNat : Int) = _
  rw [BitVec.toNat_xor, h1, h2, IntKind.wrap_i64]
  omega
theorem xor_nn {a b : Int} (ha : 0 ≤ a) (ha1 : a ≤ 1000000000000000) (hb : 0 ≤ b) (hb1 : b ≤ 1000000000000000) : 0 ≤ bits .xor .i64 a b := by
  have h := bits_xor_i64_nat a.toNat b.toNat (by omega) (by omega)
  rw [show ((a.toNat : Nat) : Int) = a from by omega, show ((b.toNat : Nat) : Int) = b from by omega] at h
  rw [h]; exact Int.natCast_nonneg _

/-- The same, the reader's bytes being known. -/
def FixPost (n : Int) (R p : Nat) (a : Option Addr) (len cap : Nat) (w : World) (e : Ending) (w' : World) : Prop :=
  ∃ x : Int, e = .returned (.int .i64 x) ∧ 0 ≤ x ∧ x < n ∧ Rd w' R (p + 1) a len cap ∧ Only R w w'
theorem pick_end {n x : Int} {R p m : Nat} {w : World} {a : Option Addr} {len cap : Nat} (h : Rd w R p a len cap) (h0 : 0 ≤ x) (h1 : x < n) :
    FixPost n R p a len cap w (.returned (.int .i64 x)) ((w.setCell ⟨R, 1, none⟩ (.int .i64 ((p : Int) + 1))).drewN m) :=
  ⟨x, rfl, h0, h1, rd_step m h, only_step m⟩

set_option maxHeartbeats 4000000 in
set_option maxRecDepth 100000 in
theorem pick_fix (n : Int) (R p : Nat) (a : Option Addr) (len cap : Nat) (w : World) (hn : 1 ≤ n) (hn1 : n ≤ 1000000000000) (hp : p ≤ 1000000000000) (hrd : Rd w R p a len cap) :
    Calls Tryz.prog 25 #[.pointer (some ⟨R, 0, none⟩), .int .i64 n] w (FixPost n R p a len cap w) := by
  have HR := Lib.hid hrd
  obtain ⟨c0, c1, f1, hlt, hlen, hby⟩ := hrd
  by_cases h0 : len = 0
  · have hl0 : ((len : Int) == 0) = true := by simp [h0]
    have H0 := Lib.hid h0
    clear h0 hby
    go_enter Tryz.func25, Tryz.ntmps25
    go_wp2_with fail
    go_ret
    exact pick_end (m := 0) HR.out (by omega) (by omega)
  · have hl0 : ((len : Int) == 0) = false := by simp [h0]
    obtain ⟨b, off, ha, hbR, hb, hz⟩ : ∃ b off, a = some ⟨b, off, none⟩ ∧ b ≠ R ∧ b < w.heap.size ∧ ∀ j, j < len → ∃ z : Int, w.cell? ⟨b, off + j, none⟩ = some (.int .u8 z) ∧ 0 ≤ z ∧ z ≤ 255 := by
      rcases hby with h | h
      · exact absurd h h0
      · exact h
    subst ha
    have HZ := Lib.hid hz
    clear hz hby
    have hpos : 0 < len := by omega
    by_cases hk : p < len
    · obtain ⟨z, hz, z0, z1⟩ := HZ.out p hk
      go_enter Tryz.func25, Tryz.ntmps25
      go_wp2_with fail
      go_ret
      exact pick_end (m := 0) HR.out (Int.emod_nonneg _ (by omega)) (Int.emod_lt_of_pos _ (by omega))
    · obtain ⟨z, hz, z0, z1⟩ := HZ.out (p % len) (Nat.mod_lt _ hpos)
      obtain ⟨y, hy, y0, y1⟩ := HZ.out ((p * 7 + 3) % len) (Nat.mod_lt _ hpos)
      have m0 : (0 : Int) ≤ (p : Int) % (len : Int) := Int.emod_nonneg _ (by omega)
      have m1 : (p : Int) % (len : Int) < (len : Int) := Int.emod_lt_of_pos _ (by omega)
      have m2 : (0 : Int) ≤ ((p : Int) * 7 + 3) % (len : Int) := Int.emod_nonneg _ (by omega)
      have m3 : ((p : Int) * 7 + 3) % (len : Int) < (len : Int) := Int.emod_lt_of_pos _ (by omega)
      have m4 : ((p : Int) % (len : Int)).toNat = p % len := by omega
      have m5 : (((p : Int) * 7 + 3) % (len : Int)).toNat = (p * 7 + 3) % len := by
        rw [show (p : Int) * 7 + 3 = ((p * 7 + 3 : Nat) : Int) from by omega, ← Int.natCast_emod]; rfl
      have d0 : (0 : Int) ≤ (p : Int) / (len : Int) := Int.ediv_nonneg (by omega) (by omega)
      have d1 : (p : Int) / (len : Int) ≤ (p : Int) := Int.ediv_le_self _ (by omega)
      have hpl : (0 : Int) < (len : Int) := by omega
      go_enter Tryz.func25, Tryz.ntmps25
      go_wp2_with fail
      go_quiet (fail)
      clear m0 m1 m2 m3 m4 m5
      go_wp2_with fail
      go_ret
      have hx := xor_nn (a := z * 131 + y * 1117 + (p : Int) * 29 + (p : Int) / (len : Int) * 53) (b := (z * 131 + y * 1117 + (p : Int) * 29 + (p : Int) / (len : Int) * 53) / 64) (by omega) (by omega) (by omega) (by omega)
      exact pick_end HR.out (Int.tmod_nonneg _ hx) (Int.tmod_lt_of_pos _ (by omega))

theorem pick_any (n : Int) (R K : Nat) (w : World) (hn : 1 ≤ n) (hn1 : n ≤ 1000000000000) (hK : K ≤ 1000000000000) (h : RdInv w R K) :
    Calls Tryz.prog 25 #[.pointer (some ⟨R, 0, none⟩), .int .i64 n] w (PickPost n R K w) := by
  obtain ⟨p, a, len, cap, hp, hrd⟩ := h
  refine (pick_fix n R p a len cap w hn hn1 (by omega) hrd).mono ?_
  rintro e w' ⟨x, rfl, x0, x1, hr, ho⟩
  exact ⟨x, rfl, x0, x1, ⟨p + 1, a, len, cap, by omega, hr⟩, ho⟩

theorem Only.drew {R : Nat} {a b : World} (h : Only R a b) : Only R a b.drew := h.drewN 1
theorem rd_of_block {w w' : World} {R p : Nat} {a : Option Addr} {len cap : Nat} (h : Rd w R p a len cap) (hs : w.heap.size ≤ w'.heap.size) (hb : ∀ k, k < w.heap.size → w'.heap[k]? = w.heap[k]?) : Rd w' R p a len cap where
  c0 := (World.cell?_of_block (w := w) (hb R h.lt)).trans h.c0
  c1 := (World.cell?_of_block (w := w) (hb R h.lt)).trans h.c1
  f1 := (World.frozen?_of_block (w := w) (hb R h.lt)).trans h.f1
  lt := Nat.lt_of_lt_of_le h.lt hs
  le := h.le
  bytes := by
    rcases h.bytes with h0 | ⟨b, off, ha, hbR, hbb, hz⟩
    · exact Or.inl h0
    · refine Or.inr ⟨b, off, ha, hbR, Nat.lt_of_lt_of_le hbb hs, fun j hj => ?_⟩
      obtain ⟨z, hc, hz⟩ := hz j hj
      exact ⟨z, (World.cell?_of_block (w := w) (hb b hbb)).trans hc, hz⟩
theorem RdInv.below {w w' : World} {R K : Nat} (h : RdInv w R K) (hb : Below w.heap.size w w') : RdInv w' R K := by
  obtain ⟨p, a, len, cap, hp, hr⟩ := h
  exact ⟨p, a, len, cap, hp, rd_of_block hr hb.size hb.block⟩
theorem RdInv.alloc {w : World} {R K : Nat} {o : Obj} (h : RdInv w R K) : RdInv (w.alloc o) R K := h.below ((Below.refl _ _).alloc (Nat.le_refl _) o)
theorem RdInv.drewN {w : World} {R K n : Nat} (h : RdInv w R K) : RdInv (w.drewN n) R K := h.below (below_drewN (Below.refl _ _) n)
theorem RdInv.drew {w : World} {R K : Nat} (h : RdInv w R K) : RdInv w.drew R K := h.below ((Below.refl _ _).drew)
theorem RdInv.lt {w : World} {R K : Nat} (h : RdInv w R K) : R < w.heap.size := by
  obtain ⟨p, a, len, cap, hp, hr⟩ := h; exact hr.lt
theorem RdInv.mono {w : World} {R K K' : Nat} (h : RdInv w R K) (hK : K ≤ K') : RdInv w R K' := by
  obtain ⟨p, a, len, cap, hp, hr⟩ := h; exact ⟨p, a, len, cap, Nat.le_trans hp hK, hr⟩

/-- A reader of known bytes in block R that has read at most K times. -/
def RdX (w : World) (R K : Nat) (a : Option Addr) (len cap : Nat) : Prop := ∃ p, p ≤ K ∧ Rd w R p a len cap
theorem RdX.inv {w : World} {R K : Nat} {a : Option Addr} {len cap : Nat} (h : RdX w R K a len cap) : RdInv w R K := by
  obtain ⟨p, hp, hr⟩ := h; exact ⟨p, a, len, cap, hp, hr⟩
theorem RdX.below {w w' : World} {R K : Nat} {a : Option Addr} {len cap : Nat} (h : RdX w R K a len cap) (hb : Below w.heap.size w w') : RdX w' R K a len cap := by
  obtain ⟨p, hp, hr⟩ := h
  exact ⟨p, hp, rd_of_block hr hb.size hb.block⟩
theorem RdX.alloc {w : World} {R K : Nat} {o : Obj} {a : Option Addr} {len cap : Nat} (h : RdX w R K a len cap) : RdX (w.alloc o) R K a len cap := h.below ((Below.refl _ _).alloc (Nat.le_refl _) o)
theorem RdX.drewN {w : World} {R K n : Nat} {a : Option Addr} {len cap : Nat} (h : RdX w R K a len cap) : RdX (w.drewN n) R K a len cap := h.below (below_drewN (Below.refl _ _) n)
theorem RdX.drew {w : World} {R K : Nat} {a : Option Addr} {len cap : Nat} (h : RdX w R K a len cap) : RdX w.drew R K a len cap := h.below ((Below.refl _ _).drew)
theorem RdX.lt {w : World} {R K : Nat} {a : Option Addr} {len cap : Nat} (h : RdX w R K a len cap) : R < w.heap.size := h.inv.lt
theorem RdX.mono {w : World} {R K K' : Nat} {a : Option Addr} {len cap : Nat} (h : RdX w R K a len cap) (hK : K ≤ K') : RdX w R K' a len cap := by
  obtain ⟨p, hp, hr⟩ := h; exact ⟨p, Nat.le_trans hp hK, hr⟩

/-- What a number drawn between lo and hi leaves, K reads behind it. -/
def IntPost (lo hi : Int) (R K : Nat) (w : World) (e : Ending) (w' : World) : Prop :=
  ∃ x : Int, e = .returned (.int .i64 x) ∧ lo ≤ x ∧ x ≤ hi ∧ RdInv w' R K ∧ Only R w w'
/-- An int between lo and hi. -/
def IntIn (lo hi : Int) (v : Value) : Prop := ∃ x : Int, v = .int .i64 x ∧ lo ≤ x ∧ x ≤ hi

/-- A picked place of a row that was built just ahead of the pick. -/
theorem pick_cell {R : Nat} {w w' : World} {vs : Array Value} {t : TypeId} {fr : Nat × Nat} (P : Value → Prop) (hon : Only R (w.alloc (.cells vs t fr)) w') (hR : R < w.heap.size)
    (hall : ∀ v, v ∈ vs → P v) {x : Int} (x0 : 0 ≤ x) (x1 : x < vs.size) : ∃ v, w'.cell? ⟨w.heap.size, x.toNat, none⟩ = some v ∧ P v := by
  have hb := hon.block w.heap.size (by simp) (by simp; omega)
  rw [blk_alloc_new] at hb
  have hlt : x.toNat < vs.size := by omega
  refine ⟨vs[x.toNat], ?_, hall _ (Array.getElem_mem hlt)⟩
  simp [World.cell?, hb, hlt]

/-- A pick, the reader's fact ahead of the bounds. -/
theorem pick_at {n : Int} {R K : Nat} {w : World} (h : RdInv w R K) (hK : K ≤ 1000000000000) (hn : 1 ≤ n) (hn1 : n ≤ 1000000000000) :
    Calls Tryz.prog 25 #[.pointer (some ⟨R, 0, none⟩), .int .i64 n] w (PickPost n R K w) := pick_any n R K w hn hn1 hK h

theorem pick_atX {n : Int} {R K : Nat} {w : World} {a : Option Addr} {len cap : Nat} (h : RdX w R K a len cap) (hK : K ≤ 1000000000000) (hn : 1 ≤ n) (hn1 : n ≤ 1000000000000) :
    Calls Tryz.prog 25 #[.pointer (some ⟨R, 0, none⟩), .int .i64 n] w fun e w' => ∃ x : Int, e = .returned (.int .i64 x) ∧ 0 ≤ x ∧ x < n ∧ RdX w' R (K + 1) a len cap ∧ Only R w w' := by
  obtain ⟨p, hp, hr⟩ := h
  refine (pick_fix n R p a len cap w hn hn1 (by omega) hr).mono ?_
  rintro e w' ⟨x, rfl, x0, x1, hr, ho⟩
  exact ⟨x, rfl, x0, x1, ⟨p + 1, by omega, hr⟩, ho⟩

end My
end Go.Proofs.YtjmlekhgnbbjoaaGreatDoor
