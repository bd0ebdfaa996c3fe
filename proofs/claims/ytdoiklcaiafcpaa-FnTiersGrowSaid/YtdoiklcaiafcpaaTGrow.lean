/- The drawing function of marks; the plain law of FnTiersGrow. -/
import Derived.Test.YtdoiklcaiafcpaaMarks
import Derived.Test.YtdoiklcaiafcpaaDrawA
import Derived.OwnWalk
import Derived.Deep.AppendLies
import Derived.Deep.RegionLaw
import Derived.Deep.CutRange
namespace Go.Proofs.Ytdoiklcaiafcpaa
open Go.RowKit Go.Deep
set_option linter.unusedVariables false
namespace My

/-- The price of the last mark, among the first k, whose From is not above n. -/
def priceTo (n : Int) (ms : List (Int × Int)) : Nat → Int
  | 0 => 0
  | k + 1 => if mF ms k ≤ n then mP ms k else priceTo n ms k
theorem price_bd {ms : List (Int × Int)} (h : marksB ms = true) (n : Int) : ∀ k, 0 ≤ priceTo n ms k ∧ priceTo n ms k ≤ 1000000
  | 0 => by simp [priceTo]
  | k + 1 => by
    have := price_bd h n k
    have := marks_bd h k
    simp only [priceTo]
    split <;> omega
theorem marks_up {ms : List (Int × Int)} (h : marksB ms = true) {k : Nat} (hk : k + 1 < ms.length) : mF ms k < mF ms (k + 1) := by
  have := marksB_step h hk
  simp only [stepB, Bool.and_eq_true, Bool.or_eq_true, decide_eq_true_eq] at this
  rcases this.2 with e | e
  · omega
  · simpa using e
theorem grow_sum {ms : List (Int × Int)} (h : marksB ms = true) (n : Int) (hn : 0 ≤ n) : ∀ k, k ≤ ms.length →
    sumI (n + 1) ms k = sumI n ms k + (if k < ms.length ∧ mF ms k ≤ n then 0 else priceTo n ms k)
  | 0, _ => by
    simp only [sumI, priceTo]
    split <;> rfl
  | k + 1, hk => by
    have ih := grow_sum h n hn k (by omega)
    simp only [sumI]
    rw [ih]
    have hkl : k < ms.length := by omega
    have mul1 : (n + 1 - mF ms k) * mP ms k = (n - mF ms k) * mP ms k + mP ms k := by
      rw [show n + 1 - mF ms k = (n - mF ms k) + 1 from by omega, Int.add_mul, Int.one_mul]
    by_cases hF : mF ms k ≤ n
    · rw [if_pos ⟨hkl, hF⟩]
      simp only [priceTo]
      rw [if_pos hF]
      by_cases h1 : k + 1 < ms.length
      · by_cases hn1 : mF ms (k + 1) ≤ n
        · rw [if_pos ⟨h1, hn1⟩]
          have e1 : endI (n + 1) ms k = mF ms (k + 1) := by unfold endI; rw [if_pos ⟨h1, by omega⟩]
          have e2 : endI n ms k = mF ms (k + 1) := by
            unfold endI
            by_cases c : mF ms (k + 1) < n
            · rw [if_pos ⟨h1, c⟩]
            · rw [if_neg (by omega)]; omega
          have : partI (n + 1) ms k = partI n ms k := by unfold partI; rw [e1, e2]
          omega
        · rw [if_neg (by omega)]
          have e1 : endI (n + 1) ms k = n + 1 := by unfold endI; rw [if_neg (by omega)]
          have e2 : endI n ms k = n := by unfold endI; rw [if_neg (by omega)]
          have : partI (n + 1) ms k = partI n ms k + mP ms k := by
            unfold partI
            rw [e1, e2, if_pos (by omega), mul1]
            by_cases c : mF ms k < n
            · rw [if_pos c]
            · rw [if_neg c, show n - mF ms k = 0 from by omega]; simp
          omega
      · rw [if_neg (by omega)]
        have e1 : endI (n + 1) ms k = n + 1 := by unfold endI; rw [if_neg (by omega)]
        have e2 : endI n ms k = n := by unfold endI; rw [if_neg (by omega)]
        have : partI (n + 1) ms k = partI n ms k + mP ms k := by
          unfold partI
          rw [e1, e2, if_pos (by omega), mul1]
          by_cases c : mF ms k < n
          · rw [if_pos c]
          · rw [if_neg c, show n - mF ms k = 0 from by omega]; simp
        omega
    · rw [if_neg (by omega)]
      simp only [priceTo]
      rw [if_neg hF]
      have hz : partI (n + 1) ms k = 0 ∧ partI n ms k = 0 := by
        unfold partI endI
        constructor
        · rw [if_neg]
          split <;> omega
        · rw [if_neg]
          split <;> omega
      rw [hz.1, hz.2]
      by_cases h1 : k + 1 < ms.length
      · have := marks_up h h1
        rw [if_neg (by omega)]
        omega
      · rw [if_neg (by omega)]
        omega
theorem grow_law {ms : List (Int × Int)} {n : Int} (h : tofB n ms = true) (h' : tofB (n + 1) ms = true) : tofV (n + 1) ms = tofV n ms + priceTo n ms ms.length := by
  have hg : tofG n ms = true := by simp only [tofB, Bool.and_eq_true] at h; exact h.1
  simp only [tofG, Bool.and_eq_true] at hg
  have hb := inB_true hg.1
  simp only [tofV, h, h', if_true]
  rw [grow_sum hg.2 n hb.1 _ (Nat.le_refl _), if_neg (by omega)]

/-- Ints in a list of cells. -/
def IntVals (b : Int) (xs : List Value) : Prop := ∀ v, v ∈ xs → ∃ x : Int, v = .int .i64 x ∧ 0 ≤ x ∧ x ≤ b
def getI (xs : List Value) (i : Nat) : Int := match xs[i]? with
  | some (.int .i64 x) => x
  | _ => 0
def msOf (xs : List Value) (m : Nat) : List (Int × Int) := (List.range m).map fun k => (getI xs (k * 2), getI xs (k * 2 + 1))
theorem getI_of {xs : List Value} {b : Int} (h : IntVals b xs) {i : Nat} (hi : i < xs.length) : xs[i]? = some (.int .i64 (getI xs i)) ∧ 0 ≤ getI xs i ∧ getI xs i ≤ b := by
  obtain ⟨x, hx, h0, h1⟩ := h xs[i] (List.getElem_mem hi)
  have e : xs[i]? = some (.int .i64 x) := by rw [List.getElem?_eq_getElem hi, hx]
  have e2 : getI xs i = x := by simp only [getI, e]
  rw [e2]; exact ⟨e, h0, h1⟩
theorem msOf_at {w : World} {base g m c : Nat} {b : Int} {xs : List Value} (h : w.ownsRow base 42 2 (.slice (some ⟨g, 0, none⟩) m c) m xs) (hv : IntVals b xs) (hg : g < w.heap.size) :
    MarksAt w g 0 (msOf xs m) := by
  have hl : (msOf xs m).length = m := by simp [msOf]
  have hxl : xs.length = m * 2 := h.1
  refine ⟨fun k hk => ?_, fun k hk => ?_, hg⟩
  · rw [hl] at hk
    rw [Nat.zero_add, h.cellAt (k * 2) (by omega), (getI_of hv (by omega)).1]
    simp [mF, msOf, hk]
  · rw [hl] at hk
    rw [Nat.zero_add, h.cellAt (k * 2 + 1) (by omega), (getI_of hv (by omega)).1]
    simp [mP, msOf, hk]
theorem IntVals.mono {b b' : Int} {xs : List Value} (h : IntVals b xs) (hb : b ≤ b') : IntVals b' xs := by
  intro v hv
  obtain ⟨x, e, h0, h1⟩ := h v hv
  exact ⟨x, e, h0, by omega⟩
theorem IntVals.set {b : Int} {xs : List Value} (h : IntVals b xs) (i : Nat) {x : Int} (h0 : 0 ≤ x) (h1 : x ≤ b) : IntVals b (xs.set i (.int .i64 x)) := by
  intro v hv
  rcases List.mem_or_eq_of_mem_set hv with hv | hv
  · exact h v hv
  · exact ⟨x, hv, h0, h1⟩

/-- m marks of an own row, and the reader. -/
structure MInv (w0 : World) (R K : Nat) (a : Option Addr) (len cap : Nat) (m g c : Nat) (wr : World) : Prop where
  far : len = 0 ∨ ∀ b, a = some b → b.block < w0.heap.size
  row : ∃ xs, wr.ownsRow w0.heap.size 42 2 (.slice (some ⟨g, 0, none⟩) m c) m xs ∧ IntVals (1000000 + 100 * m) xs
  rd : RdX wr R K a len cap
  on : Only R w0 wr
  lt : R < w0.heap.size
theorem MInv.base {w0 wr : World} {R K m g c : Nat} {a : Option Addr} {len cap : Nat} (h : MInv w0 R K a len cap m g c wr) : w0.heap.size ≤ g ∧ g < wr.heap.size := by
  obtain ⟨xs, hr, _⟩ := h.row
  exact hr.lt g rfl
theorem MInv.push {w0 w w3 w4 : World} {R K K' m g c g' c' : Nat} {a : Option Addr} {len cap : Nat} {x y : Int} {xs : List Value} (h : MInv w0 R K a len cap m g c w) (hm : 1 ≤ m) (ho : Only R w w3) (hi : RdX w3 R K' a len cap) (hb : IntVals (1000000 + 100 * m) xs) (hx : 0 ≤ x ∧ x ≤ 1000000 + 100 * (m + 1)) (hy : 0 ≤ y ∧ y ≤ 1000000)
    (hown : w4.ownsRow w0.heap.size 42 2 (.slice (some ⟨g', 0, none⟩) (m + 1) c') (m + 1) (xs ++ [.int .i64 x, .int .i64 y]))
    (hgrow : (w3.alloc (.cells #[.int .i64 x, .int .i64 y] 42)).grownBy w4 (Value.ownBlock (.slice (some ⟨g, 0, none⟩) m c))) : MInv w0 R K' a len cap (m + 1) g' c' w4 := by
  have hsz := (h.on.trans ho).size
  have hlt := h.lt
  have hg := h.base.1
  have hb2 : Below w0.heap.size (w3.alloc (.cells #[.int .i64 x, .int .i64 y] 42)) w4 := (Below.refl _ _).grown hgrow (by simp; omega) (by intro q hq; simp [Value.ownBlock] at hq; omega)
  refine ⟨h.far, ⟨_, hown, ?_⟩, ?_, ?_, hlt⟩
  · intro v hv
    rcases List.mem_append.1 hv with hv | hv
    · obtain ⟨z, e, h0, h1⟩ := hb v hv
      exact ⟨z, e, h0, by omega⟩
    · simp at hv
      rcases hv with rfl | rfl
      · exact ⟨_, rfl, hx.1, by omega⟩
      · exact ⟨_, rfl, hy.1, by omega⟩
  · obtain ⟨p, hp, hrd⟩ := hi.alloc (o := .cells #[.int .i64 x, .int .i64 y] 42)
    refine ⟨p, hp, ?_⟩
    have hR := hb2.block R hlt
    refine ⟨(World.cell?_of_block (w := w3.alloc _) hR).trans hrd.c0, (World.cell?_of_block (w := w3.alloc _) hR).trans hrd.c1, (World.frozen?_of_block (w := w3.alloc _) hR).trans hrd.f1, Nat.lt_of_lt_of_le hrd.lt hb2.size, hrd.le, ?_⟩
    rcases hrd.bytes with h0 | ⟨b, off, ha, hbR, hbb, hz⟩
    · exact Or.inl h0
    · rcases h.far with h0 | hf
      · exact Or.inl h0
      · have hbw : b < w0.heap.size := hf _ ha
        refine Or.inr ⟨b, off, ha, hbR, Nat.lt_of_lt_of_le hbb hb2.size, fun j hj => ?_⟩
        obtain ⟨z, hc, hz⟩ := hz j hj
        exact ⟨z, (World.cell?_of_block (w := w3.alloc _) (hb2.block b hbw)).trans hc, hz⟩
  · have h1 := (h.on.trans ho).alloc (.cells #[.int .i64 x, .int .i64 y] 42)
    exact ⟨hb2.os.trans h1.os, hb2.tape.trans h1.tape, hb2.output.trans h1.output, Nat.le_trans h1.size hb2.size, fun i hi hne => (hb2.block i hi).trans (h1.block i hi hne)⟩
theorem MInv.later {w0 w w3 : World} {R K K' m g c : Nat} {a : Option Addr} {len cap : Nat} (h : MInv w0 R K a len cap m g c w) (ho : Only R w w3) (hi : RdX w3 R K' a len cap) : MInv w0 R K' a len cap m g c w3 := by
  obtain ⟨xs, hr, hv⟩ := h.row
  have hg := h.base.1
  have hlt := h.lt
  exact ⟨h.far, ⟨xs, hr.kept ho (Or.inr (by simp [Value.ownBlock]; omega)), hv⟩, hi, h.on.trans ho, h.lt⟩
theorem MInv.set {w0 w : World} {R K m g c : Nat} {a : Option Addr} {len cap : Nat} (h : MInv w0 R K a len cap m g c w) (i : Nat) {x : Int} (h0 : 0 ≤ x) (h1 : x ≤ 1000000) :
    MInv w0 R K a len cap m g c (w.setCell ⟨g, i, none⟩ (.int .i64 x)) := by
  obtain ⟨xs, hr, hv⟩ := h.row
  have hg := h.base.1
  have hlt := h.lt
  have hst := hr.stored i (.int .i64 x)
  refine ⟨h.far, ⟨_, hst.1, hv.set i h0 (by omega)⟩, ?_, ?_, hlt⟩
  · obtain ⟨p, hp, hrd⟩ := h.rd
    refine ⟨p, hp, ?_⟩
    have hb : ∀ k, k < w0.heap.size → (w.setCell ⟨g, i, none⟩ (.int .i64 x)).heap[k]? = w.heap[k]? := fun k hk => blk_setCell_other _ _ _ _ (by simp; omega)
    have hR := hb R hlt
    refine ⟨(World.cell?_of_block (w := w) hR).trans hrd.c0, (World.cell?_of_block (w := w) hR).trans hrd.c1, (World.frozen?_of_block (w := w) hR).trans hrd.f1, by simpa [World.setCell] using hrd.lt, hrd.le, ?_⟩
    rcases hrd.bytes with h0 | ⟨b, off, ha, hbR, hbb, hz⟩
    · exact Or.inl h0
    · rcases h.far with h0 | hf
      · exact Or.inl h0
      · have hbw : b < w0.heap.size := hf _ ha
        refine Or.inr ⟨b, off, ha, hbR, by simpa [World.setCell] using hbb, fun j hj => ?_⟩
        obtain ⟨z, hc, hz⟩ := hz j hj
        exact ⟨z, (World.cell?_of_block (w := w) (hb b hbw)).trans hc, hz⟩
  · exact ⟨h.on.os, h.on.tape, h.on.output, by simpa [World.setCell] using h.on.size, fun k hk hne => (blk_setCell_other _ _ _ _ (by simp; omega)).trans (h.on.block k hk hne)⟩

/-- What l14Marks leaves. -/
def MPost (R K : Nat) (a : Option Addr) (len cap : Nat) (w0 : World) (e : Ending) (w' : World) : Prop :=
  ∃ g m c : Nat, e = .returned (.slice (some ⟨g, 0, none⟩) m c) ∧ 1 ≤ m ∧ m ≤ 4 ∧ m ≤ c ∧ MInv w0 R K a len cap m g c w'
theorem news_two (w : World) (u v : Value) (t : TypeId) : ∀ j x, [u, v][j]? = some x → (w.alloc (.cells #[u, v] t)).cell? (Addr.add ⟨w.heap.size, 0, none⟩ j) = some x :=
  World.news_of_block (blk_alloc_new w (.cells #[u, v] t))

end My
end Go.Proofs.Ytdoiklcaiafcpaa
