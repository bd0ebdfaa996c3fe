/- The drawing function of texts for sums. (The parts on readers: as in the other seats' texts, in one file.) -/
import Derived.Test.YtabpkabeabemmaaDoorHashA
import Derived.Test.YtabpkabeabemmaaDoorHashW
import Derived.Deep.SlicePairs
import Derived.ProofKit
import Derived.WalkKit
import Derived.Lib.Hide
import Derived.Below
import Derived.Deep.QuietTactic
import Derived.BigQuiet
import Derived.WalkSmall
import Derived.Deep.OwnRows
import Derived.Deep.RegionWith
import Derived.StillTailTactics
import Derived.Laws.ResultCell
import Derived.Laws.BitsAll
namespace Go.Proofs.YtabpkabeabemmaaDoor
open Go.RowKit Go.Deep
set_option linter.unusedVariables false
namespace My

/-- Within a range. -/
def inB (n lo hi : Int) : Bool := decide (lo ≤ n) && decide (n ≤ hi)
def mOk (n : Int) : Bool := inB n (-1000000000000) 1000000000000

theorem inB_true {n lo hi : Int} (h : inB n lo hi = true) : lo ≤ n ∧ n ≤ hi := by simpa [inB] using h
theorem inB_false {n lo hi : Int} (h : inB n lo hi = false) : n < lo ∨ hi < n := by
  simp only [inB, Bool.and_eq_false_iff, decide_eq_false_iff_not] at h; omega
theorem inB_yes {n lo hi : Int} (h : lo ≤ n ∧ n ≤ hi) : inB n lo hi = true := by simpa [inB] using h
theorem inB_no {n lo hi : Int} (h : n < lo ∨ hi < n) : inB n lo hi = false := by
  simp only [inB, Bool.and_eq_false_iff, decide_eq_false_iff_not]; omega
theorem mOk_true {n : Int} (h : mOk n = true) : -1000000000000 ≤ n ∧ n ≤ 1000000000000 := inB_true h
theorem mOk_false {n : Int} (h : mOk n = false) : n < -1000000000000 ∨ 1000000000000 < n := inB_false h

theorem all_succ {p : Nat → Bool} {k : Nat} (h : ∀ j, j < k → p j = true) (hk : p k = true) : ∀ j, j < k + 1 → p j = true := by
  intro j hj
  by_cases e : j = k
  · rw [e]; exact hk
  · exact h j (by omega)
/-- A cell of an old block, behind a new one. -/
theorem cellA {w : World} {o : Obj} {p : Addr} (h : p.block < w.heap.size) : (w.alloc o).cell? p = w.cell? p :=
  ((Below.refl w.heap.size w).alloc (Nat.le_refl _) o).cell h
theorem bTd {w w1 w2 : World} (h : Below w.heap.size w w1) (k : Below w1.heap.size w1 w2) : Below w.heap.size w w2 := h.trans (k.mono h.size)
theorem bF {b : Bool} (h : ¬ b = true) : b = false := by simpa using h
theorem ret_bool {a b : Bool} (h : a = b) : Ending.returned (.bool a) = .returned (.bool b) := by rw [h]
theorem ret_int {k : IntKind} {a b : Int} (h : a = b) : Ending.returned (.int k a) = .returned (.int k b) := by rw [h]
theorem ret_ib {a b : Int} {c d : Bool} (h : a = b) (k : c = d) : Ending.returned (.tuple #[.int .i64 a, .bool c]) = .returned (.tuple #[.int .i64 b, .bool d]) := by rw [h, k]

/-- What 'amount' returns. -/
def amtV (n : Int) (ok : Bool) : Int := if ok && mOk n then n else 0
def amtB (n : Int) (ok : Bool) : Bool := ok && mOk n

/-- MoneyAdd, as both have it, of two numbers that fit an int. -/
def addB (a b : Int) : Bool := mOk a && mOk b && mOk (a + b)
def addV (a b : Int) : Int := if addB a b then a + b else 0

/-- A letter; a name. -/
def letB (c : UInt8) : Bool := decide (97 ≤ (c.toNat : Int)) && decide ((c.toNat : Int) ≤ 122)
def nameB (l : List UInt8) : Bool := l.all letB && inB l.length 1 8

theorem take_snoc (s : ByteArray) (k : Nat) (h : k < s.size) : s.data.toList.take (k + 1) = s.data.toList.take k ++ [s[k]] := by
  rw [List.take_succ_eq_append_getElem (by simpa using h)]; rfl

theorem all_take_succ (s : ByteArray) (k : Nat) (h : k < s.size) (ha : (s.data.toList.take k).all letB = true) (hl : letB s[k] = true) :
    (s.data.toList.take (k + 1)).all letB = true := by
  rw [take_snoc s k h, List.all_append, ha]; simpa using hl
theorem nameB_bad (s : ByteArray) (k : Nat) (h : k < s.size) (hl : letB s[k] = false) : nameB s.data.toList = false := by
  have : s.data.toList.all letB = false := by
    rw [List.all_eq_false]
    refine ⟨s[k], ?_, by simp [hl]⟩
    show s.data.toList[k]'(by simpa using h) ∈ _
    exact List.getElem_mem _
  simp [nameB, this]
theorem nameB_end (s : ByteArray) (ha : (s.data.toList.take s.size).all letB = true) : nameB s.data.toList = inB s.size 1 8 := by
  rw [List.take_of_length_le (by simp)] at ha
  simp only [nameB, ha, Bool.true_and]; congr 1

/-- A callee that leaves the world alone, met in a quiet region. -/
theorem quietS {P : Program} {f : FuncId} {args : Array Value} {w : World} {n : Nat} {v : Value}
    (h : Calls P f args (w.drewN n) fun e w' => e = .returned v ∧ w.drewN n = w') : Calls P f args (w.drewN n) fun e w'' => e = .returned v ∧ ∃ m, w'' = w.drewN m :=
  h.mono fun _ _ ⟨he, hm⟩ => ⟨he, n, hm.symm⟩

def nearB (x d : Int) : Bool := decide (d < 2 * (x % d)) || (decide (2 * (x % d) = d) && decide (x / d % 2 = 1))
def nearI (x d : Int) : Int := if nearB x d then x / d + 1 else x / d
def absI (n : Int) : Int := if n < 0 then -n else n

theorem div_facts (x d : Int) (h0 : 0 ≤ x) (hd : 1 ≤ d) : 0 ≤ x / d ∧ x / d ≤ x ∧ 0 ≤ x % d ∧ x % d < d := by
  refine ⟨Int.ediv_nonneg h0 (by omega), ?_, Int.emod_nonneg _ (by omega), Int.emod_lt_of_pos _ (by omega)⟩
  exact Int.ediv_le_self _ h0

theorem nearI_bd (x d : Int) (h0 : 0 ≤ x) (hd : 1 ≤ d) : 0 ≤ nearI x d ∧ nearI x d ≤ x + 1 := by
  obtain ⟨a, b, _, _⟩ := div_facts x d h0 hd
  unfold nearI; split <;> omega

theorem nearI_lo (x d : Int) (h : 2 * (x % d) ≤ d) (h2 : ¬ 2 * (x % d) = d) : nearI x d = x / d := by
  unfold nearI nearB; rw [if_neg]; simp only [Bool.or_eq_true, Bool.and_eq_true, decide_eq_true_eq]; omega

theorem near_cases (x d : Int) : (d < 2 * (x % d) ∧ nearI x d = x / d + 1) ∨ (2 * (x % d) = d ∧ x / d % 2 = 1 ∧ nearI x d = x / d + 1) ∨
    (2 * (x % d) = d ∧ ¬ x / d % 2 = 1 ∧ nearI x d = x / d) ∨ (2 * (x % d) < d ∧ nearI x d = x / d) := by
  unfold nearI nearB
  simp only [Bool.or_eq_true, Bool.and_eq_true, decide_eq_true_eq]
  split <;> omega

/-- MoneyPart, where its arguments are in range. -/
def partG (a n m : Int) : Bool := mOk a && inB n 0 1000000 && inB m 1 1000000
def partQ (a n m : Int) : Int := if a < 0 then -(nearI (absI a * n) m) else nearI (absI a * n) m
def partB (a n m : Int) : Bool := partG a n m && mOk (partQ a n m)
def partV (a n m : Int) : Int := if partB a n m then partQ a n m else 0

theorem mul_bd (a n : Int) (h0 : 0 ≤ a) (h1 : a ≤ 1000000000000) (k0 : 0 ≤ n) (k1 : n ≤ 1000000) : 0 ≤ a * n ∧ a * n ≤ 1000000000000000000 := by
  refine ⟨Int.mul_nonneg h0 k0, ?_⟩
  calc a * n ≤ 1000000000000 * n := Int.mul_le_mul_of_nonneg_right h1 k0
    _ ≤ 1000000000000 * 1000000 := Int.mul_le_mul_of_nonneg_left k1 (by omega)
    _ = 1000000000000000000 := by decide

theorem absI_bd (a : Int) (h : -1000000000000 ≤ a ∧ a ≤ 1000000000000) : 0 ≤ absI a ∧ absI a ≤ 1000000000000 := by unfold absI; omega

/-- The reader lies in block R: its bytes, and its place p. -/
structure Rd (w : World) (R : Nat) (p : Nat) (a : Option Addr) (len cap : Nat) : Prop where
  c0 : w.cell? ⟨R, 0, none⟩ = some (.slice a len cap)
  c1 : w.cell? ⟨R, 1, none⟩ = some (.int .i64 p)
  f1 : w.frozen? ⟨R, 1, none⟩ = false
  lt : R < w.heap.size
  le : len ≤ 2000
  bytes : len = 0 ∨ ∃ b off, a = some ⟨b, off, none⟩ ∧ b ≠ R ∧ b < w.heap.size ∧ ∀ j, j < len → ∃ z : Int, w.cell? ⟨b, off + j, none⟩ = some (.int .u8 z) ∧ 0 ≤ z ∧ z ≤ 255

/-- A reader in block R that has read at most K times. -/
def RdInv (w : World) (R K : Nat) : Prop := ∃ p a len cap, p ≤ K ∧ Rd w R p a len cap
/-- Only block R may have turned, beside new blocks. -/
def Only (R : Nat) (w w' : World) : Prop := w.grownBy w' (some R)
theorem Only.refl (R : Nat) (w : World) : Only R w w := World.grownBy.refl w _
theorem Only.trans {R : Nat} {a b c : World} (h : Only R a b) (k : Only R b c) : Only R a c :=
  ⟨k.os.trans h.os, k.tape.trans h.tape, k.output.trans h.output, Nat.le_trans h.size k.size, fun i hi hne => (k.block i (Nat.lt_of_lt_of_le hi h.size) hne).trans (h.block i hi hne)⟩
theorem Only.drewN {R : Nat} {a b : World} (h : Only R a b) (n : Nat) : Only R a (b.drewN n) := ⟨h.os, h.tape, h.output, h.size, h.block⟩
theorem Only.alloc {R : Nat} {a b : World} (h : Only R a b) (o : Obj) : Only R a (b.alloc o) := h.trans (World.grownBy_alloc b o _)

theorem rd_step {w : World} {R p : Nat} {a : Option Addr} {len cap : Nat} (m : Nat) (h : Rd w R p a len cap) : Rd ((w.setCell ⟨R, 1, none⟩ (.int .i64 ((p : Int) + 1))).drewN m) R (p + 1) a len cap where
  c0 := by
    show (w.setCell ⟨R, 1, none⟩ _).cell? ⟨R, 0, none⟩ = _
    have := h.c0
    go_simp
  c1 := by
    show (w.setCell ⟨R, 1, none⟩ _).cell? ⟨R, 1, none⟩ = _
    have := h.c1
    go_simp
  f1 := by
    show (w.setCell ⟨R, 1, none⟩ _).frozen? ⟨R, 1, none⟩ = _
    have := h.f1
    go_simp
  lt := by show _ < (w.setCell ⟨R, 1, none⟩ _).heap.size; simpa [World.setCell] using h.lt
  le := h.le
  bytes := by
    rcases h.bytes with h0 | ⟨b, off, ha, hbR, hb, hz⟩
    · exact Or.inl h0
    · refine Or.inr ⟨b, off, ha, hbR, by show b < (w.setCell ⟨R, 1, none⟩ _).heap.size; simpa [World.setCell] using hb, ?_⟩
      intro j hj
      obtain ⟨z, hc, hz⟩ := hz j hj
      refine ⟨z, ?_, hz⟩
      show (w.setCell ⟨R, 1, none⟩ _).cell? ⟨b, off + j, none⟩ = _
      rw [World.cell?_of_block (w := w) (blk_setCell_other _ _ _ _ (by exact hbR))]
      exact hc
theorem only_step {w : World} {R p : Nat} {v : Value} (m : Nat) : Only R w ((w.setCell ⟨R, p, none⟩ v).drewN m) :=
  ⟨rfl, rfl, rfl, by simp [World.setCell], fun k hk hne => blk_setCell_other _ _ _ _ (fun e => hne (by rw [e]))⟩

/-- What a pick below n leaves. -/
def PickPost (n : Int) (R K : Nat) (w : World) (e : Ending) (w' : World) : Prop :=
  ∃ x : Int, e = .returned (.int .i64 x) ∧ 0 ≤ x ∧ x < n ∧ RdInv w' R (K + 1) ∧ Only R w w'

theorem bits_xor_i64_nat (a b : Nat) (ha : a < 9223372036854775808) (hb : b < 9223372036854775808) :
    bits .xor .i64 (a : Int) (b : Int) = ((a ^^^ b : Nat) : Int) := by
  have hx : a ^^^ b < 2 ^ 63 := Nat.xor_lt_two_pow (by omega) (by omega)
  have h1 : (BitVec.ofInt 64 (a : Int)).toNat = a := by
    rw [BitVec.ofInt_natCast, BitVec.toNat_ofNat]; exact Nat.mod_eq_of_lt (by omega)
  have h2 : (BitVec.ofInt 64 (b : Int)).toNat = b := by
    rw [BitVec.ofInt_natCast, BitVec.toNat_ofNat]; exact Nat.mod_eq_of_lt (by omega)
  show IntKind.i64.wrap ((BitVec.ofInt 64 (a : Int) ^^^ BitVec.ofInt 64 (b : Int)).toNat : Int) = _
  rw [BitVec.toNat_xor, h1, h2, IntKind.wrap_i64]
  omega
theorem xor_nn {a b : Int} (ha : 0 ≤ a) (ha1 : a ≤ 1000000000000000) (hb : 0 ≤ b) (hb1 : b ≤ 1000000000000000) : 0 ≤ bits .xor .i64 a b := by
  have h := bits_xor_i64_nat a.toNat b.toNat (by omega) (by omega)
  rw [show ((a.toNat : Nat) : Int) = a from by omega, show ((b.toNat : Nat) : Int) = b from by omega] at h
  rw [h]; exact Int.natCast_nonneg _

/-- The same, the reader's bytes being known. -/
def FixPost (n : Int) (R p : Nat) (a : Option Addr) (len cap : Nat) (w : World) (e : Ending) (w' : World) : Prop :=
  ∃ x : Int, e = .returned (.int .i64 x) ∧ 0 ≤ x ∧ x < n ∧ Rd w' R (p + 1) a len cap ∧ Only R w w'
theorem pick_end {n x : Int} {R p m : Nat} {w : World} {a : Option Addr} {len cap : Nat} (h : Rd w R p a len cap) (h0 : 0 ≤ x) (h1 : x < n) :
    FixPost n R p a len cap w (.returned (.int .i64 x)) ((w.setCell ⟨R, 1, none⟩ (.int .i64 ((p : Int) + 1))).drewN m) :=
  ⟨x, rfl, h0, h1, rd_step m h, only_step m⟩

set_option maxHeartbeats 4000000 in
set_option maxRecDepth 100000 in
theorem pick_fix (n : Int) (R p : Nat) (a : Option Addr) (len cap : Nat) (w : World) (hn : 1 ≤ n) (hn1 : n ≤ 1000000000000) (hp : p ≤ 1000000000000) (hrd : Rd w R p a len cap) :
    Calls Tryd.prog 18 #[.pointer (some ⟨R, 0, none⟩), .int .i64 n] w (FixPost n R p a len cap w) := by
  have HR := Lib.hid hrd
  obtain ⟨c0, c1, f1, hlt, hlen, hby⟩ := hrd
  by_cases h0 : len = 0
  · have hl0 : ((len : Int) == 0) = true := by simp [h0]
    have H0 := Lib.hid h0
    clear h0 hby
    go_enter Tryd.func18, Tryd.ntmps18
    go_wp2_with fail
    go_ret
    exact pick_end (m := 0) HR.out (by omega) (by omega)
  · have hl0 : ((len : Int) == 0) = false := by simp [h0]
    obtain ⟨b, off, ha, hbR, hb, hz⟩ : ∃ b off, a = some ⟨b, off, none⟩ ∧ b ≠ R ∧ b < w.heap.size ∧ ∀ j, j < len → ∃ z : Int, w.cell? ⟨b, off + j, none⟩ = some (.int .u8 z) ∧ 0 ≤ z ∧ z ≤ 255 := by
      rcases hby with h | h
      · exact absurd h h0
      · exact h
    subst ha
    have HZ := Lib.hid hz
    clear hz hby
    have hpos : 0 < len := by omega
    by_cases hk : p < len
    · obtain ⟨z, hz, z0, z1⟩ := HZ.out p hk
      go_enter Tryd.func18, Tryd.ntmps18
      go_wp2_with fail
      go_ret
      exact pick_end (m := 0) HR.out (Int.emod_nonneg _ (by omega)) (Int.emod_lt_of_pos _ (by omega))
    · obtain ⟨z, hz, z0, z1⟩ := HZ.out (p % len) (Nat.mod_lt _ hpos)
      obtain ⟨y, hy, y0, y1⟩ := HZ.out ((p * 7 + 3) % len) (Nat.mod_lt _ hpos)
      have m0 : (0 : Int) ≤ (p : Int) % (len : Int) := Int.emod_nonneg _ (by omega)
      have m1 : (p : Int) % (len : Int) < (len : Int) := Int.emod_lt_of_pos _ (by omega)
      have m2 : (0 : Int) ≤ ((p : Int) * 7 + 3) % (len : Int) := Int.emod_nonneg _ (by omega)
      have m3 : ((p : Int) * 7 + 3) % (len : Int) < (len : Int) := Int.emod_lt_of_pos _ (by omega)
      have m4 : ((p : Int) % (len : Int)).toNat = p % len := by omega
      have m5 : (((p : Int) * 7 + 3) % (len : Int)).toNat = (p * 7 + 3) % len := by
        rw [show (p : Int) * 7 + 3 = ((p * 7 + 3 : Nat) : Int) from by omega, ← Int.natCast_emod]; rfl
      have d0 : (0 : Int) ≤ (p : Int) / (len : Int) := Int.ediv_nonneg (by omega) (by omega)
      have d1 : (p : Int) / (len : Int) ≤ (p : Int) := Int.ediv_le_self _ (by omega)
      have hpl : (0 : Int) < (len : Int) := by omega
      go_enter Tryd.func18, Tryd.ntmps18
      go_wp2_with fail
      go_quiet (fail)
      clear m0 m1 m2 m3 m4 m5
      go_wp2_with fail
      go_ret
      have hx := xor_nn (a := z * 131 + y * 1117 + (p : Int) * 29 + (p : Int) / (len : Int) * 53) (b := (z * 131 + y * 1117 + (p : Int) * 29 + (p : Int) / (len : Int) * 53) / 64) (by omega) (by omega) (by omega) (by omega)
      exact pick_end HR.out (Int.tmod_nonneg _ hx) (Int.tmod_lt_of_pos _ (by omega))

theorem pick_any (n : Int) (R K : Nat) (w : World) (hn : 1 ≤ n) (hn1 : n ≤ 1000000000000) (hK : K ≤ 1000000000000) (h : RdInv w R K) :
    Calls Tryd.prog 18 #[.pointer (some ⟨R, 0, none⟩), .int .i64 n] w (PickPost n R K w) := by
  obtain ⟨p, a, len, cap, hp, hrd⟩ := h
  refine (pick_fix n R p a len cap w hn hn1 (by omega) hrd).mono ?_
  rintro e w' ⟨x, rfl, x0, x1, hr, ho⟩
  exact ⟨x, rfl, x0, x1, ⟨p + 1, a, len, cap, by omega, hr⟩, ho⟩

theorem Only.drew {R : Nat} {a b : World} (h : Only R a b) : Only R a b.drew := h.drewN 1
theorem rd_of_block {w w' : World} {R p : Nat} {a : Option Addr} {len cap : Nat} (h : Rd w R p a len cap) (hs : w.heap.size ≤ w'.heap.size) (hb : ∀ k, k < w.heap.size → w'.heap[k]? = w.heap[k]?) : Rd w' R p a len cap where
  c0 := (World.cell?_of_block (w := w) (hb R h.lt)).trans h.c0
  c1 := (World.cell?_of_block (w := w) (hb R h.lt)).trans h.c1
  f1 := (World.frozen?_of_block (w := w) (hb R h.lt)).trans h.f1
  lt := Nat.lt_of_lt_of_le h.lt hs
  le := h.le
  bytes := by
    rcases h.bytes with h0 | ⟨b, off, ha, hbR, hbb, hz⟩
    · exact Or.inl h0
    · refine Or.inr ⟨b, off, ha, hbR, Nat.lt_of_lt_of_le hbb hs, fun j hj => ?_⟩
      obtain ⟨z, hc, hz⟩ := hz j hj
      exact ⟨z, (World.cell?_of_block (w := w) (hb b hbb)).trans hc, hz⟩
theorem RdInv.below {w w' : World} {R K : Nat} (h : RdInv w R K) (hb : Below w.heap.size w w') : RdInv w' R K := by
  obtain ⟨p, a, len, cap, hp, hr⟩ := h
  exact ⟨p, a, len, cap, hp, rd_of_block hr hb.size hb.block⟩
theorem RdInv.alloc {w : World} {R K : Nat} {o : Obj} (h : RdInv w R K) : RdInv (w.alloc o) R K := h.below ((Below.refl _ _).alloc (Nat.le_refl _) o)
theorem RdInv.drewN {w : World} {R K n : Nat} (h : RdInv w R K) : RdInv (w.drewN n) R K := h.below (below_drewN (Below.refl _ _) n)
theorem RdInv.drew {w : World} {R K : Nat} (h : RdInv w R K) : RdInv w.drew R K := h.below ((Below.refl _ _).drew)
theorem RdInv.lt {w : World} {R K : Nat} (h : RdInv w R K) : R < w.heap.size := by
  obtain ⟨p, a, len, cap, hp, hr⟩ := h; exact hr.lt
theorem RdInv.mono {w : World} {R K K' : Nat} (h : RdInv w R K) (hK : K ≤ K') : RdInv w R K' := by
  obtain ⟨p, a, len, cap, hp, hr⟩ := h; exact ⟨p, a, len, cap, Nat.le_trans hp hK, hr⟩

/-- A reader of known bytes in block R that has read at most K times. -/
def RdX (w : World) (R K : Nat) (a : Option Addr) (len cap : Nat) : Prop := ∃ p, p ≤ K ∧ Rd w R p a len cap
theorem RdX.inv {w : World} {R K : Nat} {a : Option Addr} {len cap : Nat} (h : RdX w R K a len cap) : RdInv w R K := by
  obtain ⟨p, hp, hr⟩ := h; exact ⟨p, a, len, cap, hp, hr⟩
theorem RdX.below {w w' : World} {R K : Nat} {a : Option Addr} {len cap : Nat} (h : RdX w R K a len cap) (hb : Below w.heap.size w w') : RdX w' R K a len cap := by
  obtain ⟨p, hp, hr⟩ := h
  exact ⟨p, hp, rd_of_block hr hb.size hb.block⟩
theorem RdX.alloc {w : World} {R K : Nat} {o : Obj} {a : Option Addr} {len cap : Nat} (h : RdX w R K a len cap) : RdX (w.alloc o) R K a len cap := h.below ((Below.refl _ _).alloc (Nat.le_refl _) o)
theorem RdX.drewN {w : World} {R K n : Nat} {a : Option Addr} {len cap : Nat} (h : RdX w R K a len cap) : RdX (w.drewN n) R K a len cap := h.below (below_drewN (Below.refl _ _) n)
theorem RdX.drew {w : World} {R K : Nat} {a : Option Addr} {len cap : Nat} (h : RdX w R K a len cap) : RdX w.drew R K a len cap := h.below ((Below.refl _ _).drew)
theorem RdX.lt {w : World} {R K : Nat} {a : Option Addr} {len cap : Nat} (h : RdX w R K a len cap) : R < w.heap.size := h.inv.lt
theorem RdX.mono {w : World} {R K K' : Nat} {a : Option Addr} {len cap : Nat} (h : RdX w R K a len cap) (hK : K ≤ K') : RdX w R K' a len cap := by
  obtain ⟨p, hp, hr⟩ := h; exact ⟨p, Nat.le_trans hp hK, hr⟩

/-- What a number drawn between lo and hi leaves, K reads behind it. -/
def IntPost (lo hi : Int) (R K : Nat) (w : World) (e : Ending) (w' : World) : Prop :=
  ∃ x : Int, e = .returned (.int .i64 x) ∧ lo ≤ x ∧ x ≤ hi ∧ RdInv w' R K ∧ Only R w w'
/-- An int between lo and hi. -/
def IntIn (lo hi : Int) (v : Value) : Prop := ∃ x : Int, v = .int .i64 x ∧ lo ≤ x ∧ x ≤ hi

/-- A picked place of a row that was built just ahead of the pick. -/
theorem pick_cell {R : Nat} {w w' : World} {vs : Array Value} {t : TypeId} {fr : Nat × Nat} (P : Value → Prop) (hon : Only R (w.alloc (.cells vs t fr)) w') (hR : R < w.heap.size)
    (hall : ∀ v, v ∈ vs → P v) {x : Int} (x0 : 0 ≤ x) (x1 : x < vs.size) : ∃ v, w'.cell? ⟨w.heap.size, x.toNat, none⟩ = some v ∧ P v := by
  have hb := hon.block w.heap.size (by simp) (by simp; omega)
  rw [blk_alloc_new] at hb
  have hlt : x.toNat < vs.size := by omega
  refine ⟨vs[x.toNat], ?_, hall _ (Array.getElem_mem hlt)⟩
  simp [World.cell?, hb, hlt]

/-- A pick, the reader's fact ahead of the bounds. -/
theorem pick_at {n : Int} {R K : Nat} {w : World} (h : RdInv w R K) (hK : K ≤ 1000000000000) (hn : 1 ≤ n) (hn1 : n ≤ 1000000000000) :
    Calls Tryd.prog 18 #[.pointer (some ⟨R, 0, none⟩), .int .i64 n] w (PickPost n R K w) := pick_any n R K w hn hn1 hK h

theorem pick_atX {n : Int} {R K : Nat} {w : World} {a : Option Addr} {len cap : Nat} (h : RdX w R K a len cap) (hK : K ≤ 1000000000000) (hn : 1 ≤ n) (hn1 : n ≤ 1000000000000) :
    Calls Tryd.prog 18 #[.pointer (some ⟨R, 0, none⟩), .int .i64 n] w fun e w' => ∃ x : Int, e = .returned (.int .i64 x) ∧ 0 ≤ x ∧ x < n ∧ RdX w' R (K + 1) a len cap ∧ Only R w w' := by
  obtain ⟨p, hp, hr⟩ := h
  refine (pick_fix n R p a len cap w hn hn1 (by omega) hr).mono ?_
  rintro e w' ⟨x, rfl, x0, x1, hr, ho⟩
  exact ⟨x, rfl, x0, x1, ⟨p + 1, by omega, hr⟩, ho⟩

/-- The bytes that came in. -/
def BytesIn (w : World) (a : Option Addr) (len cap : Nat) : Prop :=
  len ≤ cap ∧ cap ≤ maxLen ∧ (len = 0 ∨ ∃ b off, a = some ⟨b, off, none⟩ ∧ b < w.heap.size ∧ ∀ j, j < len → ∃ z : Int, w.cell? ⟨b, off + j, none⟩ = some (.int .u8 z) ∧ 0 ≤ z ∧ z ≤ 255)
theorem BytesIn.below {w w' : World} {a : Option Addr} {len cap : Nat} (h : BytesIn w a len cap) (hb : Below w.heap.size w w') : BytesIn w' a len cap := by
  obtain ⟨h1, h2, h⟩ := h
  refine ⟨h1, h2, ?_⟩
  rcases h with h | ⟨b, off, ha, hbb, hz⟩
  · exact Or.inl h
  · refine Or.inr ⟨b, off, ha, Nat.lt_of_lt_of_le hbb hb.size, fun j hj => ?_⟩
    obtain ⟨z, hc, hz⟩ := hz j hj
    exact ⟨z, (hb.cell (p := ⟨b, off + j, none⟩) hbb).trans hc, hz⟩

def OpenPost (w : World) (e : Ending) (w' : World) : Prop :=
  e = .returned (.pointer (some ⟨w.heap.size, 0, none⟩)) ∧ RdInv w' w.heap.size 0 ∧ Below w.heap.size w w'

theorem open_rd {w : World} {a : Option Addr} {len len' cap : Nat} {t : TypeId} (h : BytesIn w a len cap) (hl : len' ≤ len) (hl2 : len' ≤ 2000) :
    RdInv (w.alloc (.cells #[.slice a len' cap, .int .i64 0] t)) w.heap.size 0 := by
  have hblk := blk_alloc_new w (.cells #[.slice a len' cap, .int .i64 0] t)
  refine ⟨0, a, len', cap, Nat.le_refl _, ⟨by simp only [World.cell?, hblk]; rfl, by simp only [World.cell?, hblk]; rfl, by simp only [World.frozen?, hblk]; rfl, by simp, hl2, ?_⟩⟩
  rcases h.2.2 with h | ⟨b, off, ha, hbb, hz⟩
  · exact Or.inl (by omega)
  · refine Or.inr ⟨b, off, ha, by omega, by simp; omega, fun j hj => ?_⟩
    obtain ⟨z, hc, hz⟩ := hz j (by omega)
    exact ⟨z, (World.cell?_of_block (w := w) (blk_alloc_lt w _ b hbb)).trans hc, hz⟩

theorem l1Open_any (a : Option Addr) (len cap : Nat) (w : World) (h : BytesIn w a len cap) :
    Calls Tryd.prog 15 #[.slice a len cap] w (OpenPost w) := by
  have H := Lib.hid h
  obtain ⟨h1, h2, -⟩ := h
  unfold maxLen at h2
  by_cases hs : 2000 < len
  · go_enter Tryd.func15, Tryd.ntmps15
    go_wp2_with fail
    go_ret
    exact ⟨rfl, open_rd H.out (by omega) (Nat.le_refl _), (Below.refl _ _).alloc (Nat.le_refl _) _⟩
  · go_enter Tryd.func15, Tryd.ntmps15
    go_wp2_with fail
    go_ret
    exact ⟨rfl, open_rd H.out (Nat.le_refl _) (by omega), (Below.refl _ _).alloc (Nat.le_refl _) _⟩

theorem built2 {R : Nat} {w w' : World} {u v : Value} {t : TypeId} {fr : Nat × Nat} (hon : Only R (w.alloc (.cells #[u, v] t fr)) w') (hR : R < w.heap.size) :
    w'.cell? ⟨w.heap.size, 0, none⟩ = some u ∧ w'.cell? ⟨w.heap.size, 1, none⟩ = some v := by
  have hb := hon.block w.heap.size (by simp) (by simp; omega)
  rw [blk_alloc_new] at hb
  exact ⟨by simp only [World.cell?, hb]; rfl, by simp only [World.cell?, hb]; rfl⟩

def TwoPost (w : World) (e : Ending) (w' : World) : Prop :=
  ∃ x y : Int, e = .returned (.tuple #[.int .i64 x, .int .i64 y]) ∧ -1000000000000 ≤ x ∧ x ≤ 1000000000000 ∧ -1000000000000 ≤ y ∧ y ≤ 1000000000001 ∧ Below w.heap.size w w'

theorem drawn_below {wB w w' : World} {R : Nat} (hR : R = wB.heap.size) (hb : Below wB.heap.size wB w) (ho : Only R w w') : Below wB.heap.size wB w' :=
  hb.grown ho hb.size (fun k hk => by cases hk; omega)

theorem tup2 {A B A' B' : Value} (h : A = A') (k : B = B') : Ending.returned (.tuple #[A, B]) = .returned (.tuple #[A', B']) := by rw [h, k]

def selV (i : Int) (u v : Value) : Value := if i = 0 then u else v
theorem two_ix (i : Int) (h0 : 0 ≤ i) (h1 : i < 2) (w : World) (u v : Value) (t : TypeId) : (w.alloc (.cells #[u, v] t)).cell? ⟨w.heap.size, i.toNat, none⟩ = some (selV i u v) := by
  have hb := blk_alloc_new w (.cells #[u, v] t)
  have : i = 0 ∨ i = 1 := by omega
  rcases this with rfl | rfl <;> (simp only [World.cell?, hb]; rfl)
theorem selV_in {i : Int} {u v : Value} {P : Value → Prop} (hu : P u) (hv : P v) : P (selV i u v) := by
  unfold selV; split <;> assumption

/-- A text n times: how many bytes. -/
def ManyPost (T : Nat) (w : World) (e : Ending) (w' : World) : Prop := ∃ t : ByteArray, e = .returned (.string t) ∧ t.size = T ∧ w' = w
theorem many_step {O S j T : Nat} (h : O + S * j = T) : (O + S * (j % 2)) + (S + S) * (j / 2) = T := by
  have e : S * j = S * (2 * (j / 2)) + S * (j % 2) := by rw [← Nat.mul_add, Nat.div_add_mod]
  have e2 : (S + S) * (j / 2) = S * (2 * (j / 2)) := by rw [← Nat.two_mul, Nat.mul_comm 2 S, Nat.mul_assoc]
  omega

set_option maxHeartbeats 1000000 in
theorem l1Many_any (s : ByteArray) (n T : Nat) (w : World) (hT : s.size * n = T) (hT1 : T ≤ 1000000000) (hn : n ≤ 1000000) :
    Calls Tryd.prog 16 #[.string s, .int .i64 n] w (ManyPost T w) := by
  have HT := Lib.hid hT
  clear hT
  go_enter Tryd.func16, Tryd.ntmps16
  go_wp2_with fail
  go_loop [0, 1, 5] (fun a b c => ∃ (S O : ByteArray) (j : Nat), a = .string S ∧ b = .int .i64 j ∧ c = .string O ∧ j ≤ n ∧ O.size + S.size * j = T) (fun _ b _ => (intOf b).toNat)
  case atStart => exact ⟨s, ⟨#[]⟩, n, rfl, rfl, rfl, Nat.le_refl _, by have := HT.out; show 0 + _ = _; omega⟩
  case round =>
    obtain ⟨S, O, j, rfl, rfl, rfl, hj, hrel⟩ := hrel
    have hst := many_step hrel
    have HS := Lib.hid hst
    have HREL := Lib.hid hrel
    by_cases hpos : 0 < j
    · have hS : S.size ≤ T := by
        have : S.size * 1 ≤ S.size * j := Nat.mul_le_mul_left _ hpos
        omega
      have hO : O.size ≤ T := by omega
      have hj2 : j / 2 < j := by omega
      clear hst hrel
      by_cases hodd : (j : Int) % 2 = 1
      · have hb : ((j : Int) % 2 == 1) = true := by simp [hodd]
        have hm : j % 2 = 1 := by omega
        have HM := Lib.hid hm
        clear hodd hm
        go_wp2_with fail
        go_round
        case rel => exact ⟨S ++ S, O ++ S, j / 2, rfl, by simp, rfl, by omega, by have := HS.out; have := HM.out; simp only [ByteArray.size_append]; rw [HM.out] at *; omega⟩
        case measure => simp [intOf]; omega
      · have hb : ((j : Int) % 2 == 1) = false := by simp [hodd]
        have hm : j % 2 = 0 := by omega
        have HM := Lib.hid hm
        clear hodd hm
        go_wp2_with fail
        go_round
        case rel => exact ⟨S ++ S, O, j / 2, rfl, by simp, rfl, by omega, by have := HS.out; have := HM.out; simp only [ByteArray.size_append]; rw [HM.out] at *; omega⟩
        case measure => simp [intOf]; omega
    · have h0 : j = 0 := by omega
      have HZ := Lib.hid h0
      clear hst hrel h0
      go_wp2_with fail
      go_ret
      exact ⟨O, rfl, by have := HREL.out; rw [HZ.out] at this; simpa using this, rfl⟩

/-- One of some texts, of at most q bytes. -/
def StrIn (q : Nat) (v : Value) : Prop := ∃ s : ByteArray, v = .string s ∧ s.size ≤ q
set_option maxRecDepth 100000 in
theorem of_at {R K q : Nat} {w : World} {a : Option Addr} {len cap : Nat} (h : RdX w R K a len cap) (hK : K ≤ 1000000000000) (g n c : Nat) (hn : 1 ≤ n) (hn1 : n ≤ 1000) (hc : n ≤ c) (hgR : g ≠ R) (hg : g < w.heap.size)
    (hall : ∀ i, i < n → ∃ v, w.cell? ⟨g, i, none⟩ = some v ∧ StrIn q v) :
    Calls Tryd.prog 17 #[.pointer (some ⟨R, 0, none⟩), .slice (some ⟨g, 0, none⟩) n c] w fun e w' => ∃ s : ByteArray, e = .returned (.string s) ∧ s.size ≤ q ∧ RdX w' R (K + 1) a len cap ∧ Only R w w' := by
  have H := Lib.hid h
  have HA := Lib.hid hall
  clear h hall
  go_enter Tryd.func17, Tryd.ntmps17
  go_wp2_with fail
  refine (pick_atX (n := (n : Int)) H.out (by omega) (by omega) (by omega)).mono ?_
  rintro e w1 ⟨x, rfl, x0, x1, hr, ho⟩
  obtain ⟨v, hv, s, rfl, hs⟩ := HA.out x.toNat (by omega)
  have cf : w1.cell? ⟨g, x.toNat, none⟩ = some (.string s) := (World.cell?_of_block (w := w) (ho.block g hg (by simp; omega))).trans hv
  have HR := Lib.hid hr
  have HO := Lib.hid ho
  clear hr ho hv
  go_wp2_with fail
  go_ret
  exact ⟨s, rfl, hs, HR.out, HO.out⟩

theorem rdX_ofS {w : World} {R K : Nat} (h : RdInv w R K) : ∃ a len cap, RdX w R K a len cap ∧ (len = 0 ∨ ∀ b, a = some b → b.block < w.heap.size) := by
  obtain ⟨p, a, len, cap, hp, hr⟩ := h
  refine ⟨a, len, cap, ⟨p, hp, hr⟩, ?_⟩
  rcases hr.bytes with h0 | ⟨b, off, rfl, _, hb, _⟩
  · exact Or.inl h0
  · exact Or.inr (fun b' hb' => by cases hb'; exact hb)

theorem addr_addB (b off n : Nat) : Addr.add ⟨b, off, none⟩ n = ⟨b, off + n, none⟩ := by
  by_cases h : n = 0 <;> simp [Addr.add, h]

/-- Bytes that came in. -/
theorem openBytes {H : Type} {enc : TypeId × Value → H} {W : World} {a : Option Addr} {len cap : Nat} {d : DataW H} {p : List MemPlace}
    (h : DataW.Trod enc Tryd.prog W 0 (fun _ => true) true 24 (.slice a len cap) d p) : ∃ z : Unit, BytesIn W a len cap := by
  refine ⟨(), ?_⟩
  obtain ⟨fuel, hf⟩ := h
  rcases Go.ChangeShapes.open_ints Tryd.underlying24 Tryd.underlying5 (by kernel_rfl) hf with ⟨hcs, _⟩ | ⟨x, l, c, zs, hcs, _, hl, hm, hz, _, hcell, hwz⟩
  · simp [Value.cells] at hcs
    obtain ⟨rfl, rfl, rfl⟩ := hcs
    exact ⟨Nat.le_refl _, by simp [maxLen], Or.inl rfl⟩
  · simp [Value.cells] at hcs
    obtain ⟨rfl, rfl, rfl⟩ := hcs
    refine ⟨hl, hm, ?_⟩
    by_cases h0 : len = 0
    · exact Or.inl h0
    · have hz' : zs.length = cap := by simpa using hz
      obtain ⟨b, off, spot⟩ := x
      have hspot : spot = none := by simpa [Addr.add] using World.cell?_spot (hcell 0 (by omega))
      subst hspot
      have hb : b < W.heap.size := World.block_lt_of_cell? W _ (hcell 0 (by omega))
      refine Or.inr ⟨b, off, rfl, hb, fun j hj => ⟨zs.getD j 0, ?_, ?_⟩⟩
      · have := hcell j (by omega)
        rwa [addr_addB] at this
      · have hw := hwz (zs.getD j 0) (by
          rw [List.getD_eq_getElem?_getD, List.getElem?_eq_getElem (by omega)]
          exact List.getElem_mem _)
        simpa [Lit.wf, IntKind.min, IntKind.max, IntKind.signed, IntKind.bits] using hw

end My
end Go.Proofs.YtabpkabeabemmaaDoor
