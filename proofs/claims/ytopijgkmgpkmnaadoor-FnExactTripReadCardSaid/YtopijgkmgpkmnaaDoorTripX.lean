/- FnExactTripWrite: the exact laws' helpers on trips; the walk. -/
import Derived.Test.YtopijgkmgpkmnaaDoorTripW
namespace Go.Proofs.YtopijgkmgpkmnaaDoor
open Go.RowKit Go.Deep
set_option linter.unusedVariables false
namespace My

/-- What toTrip leaves. -/
def ToTripPost (n : Nat) (f : ByteArray) (s : Int) (F : Nat → ByteArray) (w : World) (e : Ending) (w' : World) : Prop :=
  ∃ g, e = .returned (.agg #[.slice (some ⟨g, 0, none⟩) n n, .string f, .int .i64 s]) ∧ w.heap.size ≤ g ∧ OwnT w' g n F ∧ Below w.heap.size w w'

theorem cellB {w : World} {g : Nat} {cs : Array Value} {t : TypeId} {fr : Nat × Nat} (h : w.heap[g]? = some (.cells cs t fr)) (i : Nat) : w.cell? ⟨g, i, none⟩ = cs[i]? := by simp [World.cell?, h]
theorem frozenB {w : World} {g : Nat} {cs : Array Value} {t : TypeId} (h : w.heap[g]? = some (.cells cs t (0, 0))) (i : Nat) : w.frozen? ⟨g, i, none⟩ = false := by simp [World.frozen?, h]
theorem three_blocks (w : World) (x y z : Obj) : (((w.alloc x).alloc y).alloc z).heap[w.heap.size]? = some x ∧ (((w.alloc x).alloc y).alloc z).heap[w.heap.size + 1]? = some y ∧ (((w.alloc x).alloc y).alloc z).heap[w.heap.size + 1 + 1]? = some z ∧ (((w.alloc x).alloc y).alloc z).heap.size = w.heap.size + 3 := by
  refine ⟨?_, ?_, ?_, ?_⟩
  · rw [blk_alloc_lt _ _ _ (by simp; omega), blk_alloc_lt _ _ _ (by simp), blk_alloc_new]
  · have h1 : (w.alloc x).heap.size = w.heap.size + 1 := by simp
    rw [blk_alloc_lt _ _ _ (by simp), ← h1, blk_alloc_new]
  · have h1 : ((w.alloc x).alloc y).heap.size = w.heap.size + 1 + 1 := by simp
    rw [← h1, blk_alloc_new]
  · simp

set_option maxRecDepth 100000 in
set_option maxHeartbeats 1000000 in
theorem toTrip_any (a : Option Addr) (n c : Nat) (f : ByteArray) (s : Int) (F : Nat → ByteArray) (w : World) (h : InS w a n F) (hn : n ≤ 1048576) (hc : n ≤ c) :
    Calls Tryd.prog 22 #[.agg #[.slice a n c, .string f, .int .i64 s]] w (ToTripPost n f s F w) := by
  have H := Lib.hid h
  clear h
  go_enter Tryd.func22, Tryd.ntmps22
  go_wp2_with fail
  have hb0 : Below w.heap.size w (((w.alloc (.cells #[.slice a n c, .string f, .int .i64 s] 34)).alloc (.cells #[.slice none 0 0, .string ⟨#[]⟩, .int .i64 0] 37)).alloc (.cells #[.slice none 0 0, .string ⟨#[]⟩, .int .i64 0] 37)) :=
    (((((Below.refl w.heap.size w).alloc (Nat.le_refl _) _).alloc (by simp) _)).alloc (by simp; omega) _)
  obtain ⟨kA, kB, kC, kS⟩ := three_blocks w (.cells #[.slice a n c, .string f, .int .i64 s] 34) (.cells #[.slice none 0 0, .string ⟨#[]⟩, .int .i64 0] 37) (.cells #[.slice none 0 0, .string ⟨#[]⟩, .int .i64 0] 37)
  refine (toStringS_any a n c F _ (H.out.below hb0 (Nat.le_refl _)) hn hc).mono ?_
  rintro e w1 ⟨rfl, ho, hb⟩
  have hA := (hb.block w.heap.size (by rw [kS]; omega)).trans kA
  have hB := (hb.block (w.heap.size + 1) (by rw [kS]; omega)).trans kB
  have hC := (hb.block (w.heap.size + 1 + 1) (by rw [kS]; omega)).trans kC
  have HB := Lib.hid (bT hb0 hb)
  rw [kS] at ho ⊢
  have a0 := cellB hA 0
  have a1 := cellB hA 1
  have a2 := cellB hA 2
  have b0 := cellB hB 0
  have b1 := cellB hB 1
  have b2 := cellB hB 2
  have c0 := cellB hC 0
  have c1 := cellB hC 1
  have c2 := cellB hC 2
  have g0 := frozenB hB 0
  have g1 := frozenB hB 1
  have g2 := frozenB hB 2
  have f0 := frozenB hC 0
  have f1 := frozenB hC 1
  have f2 := frozenB hC 2
  have HO := Lib.hid ho
  obtain ⟨G, hG⟩ : ∃ G, G = w.heap.size + 3 := ⟨_, rfl⟩
  rw [← hG] at HO ⊢
  have HG := Lib.hid hG
  clear hb hb0 kA kB kC kS hA hB hC ho hG
  simp at a0 a1 a2 b0 b1 b2 c0 c1 c2
  go_wp2_with fail
  refine bodyPost_ret (v := .agg #[.slice (some ⟨G, 0, none⟩) n n, .string f, .int .i64 s]) (by simp [results, Tryd.results22, go_sem, b0, b1, b2]) rfl ⟨G, rfl, by have := HG.out; omega, ?_, ?_⟩
  · have n1 : ¬ w.heap.size + 1 + 1 = G := by have := HG.out; omega
    have n2 : ¬ w.heap.size + 1 = G := by have := HG.out; omega
    exact HO.out.of_block (by simp [World.setCell, Array.getElem?_modify, n1, n2])
  · exact (((((HB.out.setCell (by simp; omega) _).setCell (by simp; omega) _).setCell (by simp; omega) _).setCell (by simp) _).setCell (by simp) _).setCell (by simp) _

/-- What szTrip leaves. -/
def SzTPost (left : Int) (n : Nat) (f : ByteArray) (F : Nat → ByteArray) (w : World) (e : Ending) (w' : World) : Prop :=
  ∃ r : Int, e = .returned (.int .i64 r) ∧ (0 ≤ r → r = left - n - sumZ F n - f.size) ∧ Below w.heap.size w w'

set_option maxRecDepth 100000 in
theorem szTrip_any (a : Option Addr) (n c : Nat) (f : ByteArray) (s : Int) (F : Nat → ByteArray) (w : World) (h : InS w a n F) (hn : n ≤ 9223372036854775807) (hc : n ≤ c) (hF : ∀ i, i < n → (F i).size ≤ 9223372036854775807) (hf : f.size ≤ 9223372036854775807) :
    Calls Tryd.prog 20 #[.agg #[.slice a n c, .string f, .int .i64 s], .int .i64 1048576] w (SzTPost 1048576 n f F w) := by
  have hb0 := (Below.refl w.heap.size w).alloc (Nat.le_refl _) (.cells #[.slice a n c, .string f, .int .i64 s] 34)
  have HB := Lib.hid hb0
  have HSZ := Lib.hid (szStringS_any a n c 1048576 F _ (h.below hb0 (Nat.le_refl _)) (by omega) (by omega) hn hc hF)
  clear h hb0 hF
  go_enter Tryd.func20, Tryd.ntmps20
  go_wp2_with fail
  with_reducible refine HSZ.out.mono ?_
  rintro e w' ⟨r, rfl, hr, hr1, hr0, rfl⟩
  have HR := Lib.hid hr
  clear hr
  by_cases hneg : r < 0
  · go_wp2_with fail
    go_ret
    exact ⟨-1, rfl, by omega, HB.out⟩
  · by_cases hneg2 : r - (f.size : Int) < 0
    · go_wp2_with fail
      go_ret
      exact ⟨-1, rfl, by omega, HB.out⟩
    · go_wp2_with fail
      go_ret
      exact ⟨r - f.size, rfl, fun _ => by have := HR.out (by omega); omega, HB.out⟩

set_option maxRecDepth 100000 in
theorem eqTrip_same (a a' : Option Addr) (n c c' : Nat) (f : ByteArray) (s : Int) (F : Nat → ByteArray) (w : World) (h : InS w a n F) (h' : InS w a' n F) (hn : n ≤ 1048576) (hc : n ≤ c) (hc' : n ≤ c') :
    Calls Tryd.prog 24 #[.agg #[.slice a n c, .string f, .int .i64 s], .agg #[.slice a' n c', .string f, .int .i64 s]] w fun e w' => e = .returned (.bool true) ∧ Below w.heap.size w w' := by
  have hb0 := ((Below.refl w.heap.size w).alloc (Nat.le_refl _) (.cells #[.slice a n c, .string f, .int .i64 s] 37)).alloc (by simp) (.cells #[.slice a' n c', .string f, .int .i64 s] 37)
  have HB := Lib.hid hb0
  have HEQ := Lib.hid (eqStringS_same a a' n c c' F _ (h.below hb0 (Nat.le_refl _)) (h'.below hb0 (Nat.le_refl _)) hn hc hc')
  clear h h' hb0
  go_enter Tryd.func24, Tryd.ntmps24
  go_wp2_with fail
  with_reducible refine HEQ.out.mono ?_
  rintro e w' ⟨rfl, z, rfl⟩
  go_wp2_with fail
  go_ret
  exact ⟨rfl, below_drewN HB.out z⟩

end My
end Go.Proofs.YtopijgkmgpkmnaaDoor
