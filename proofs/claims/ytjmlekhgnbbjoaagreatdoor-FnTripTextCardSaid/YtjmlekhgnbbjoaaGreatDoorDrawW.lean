/- The drawing functions of words. -/
import Derived.Test.YtjmlekhgnbbjoaaGreatDoorWireX
import Derived.Deep.AppendLies
import Derived.Deep.AppendSrc
import Derived.Deep.CutRange
namespace Go.Proofs.YtjmlekhgnbbjoaaGreatDoor
open Go.RowKit Go.Deep
set_option linter.unusedVariables false
namespace My

/-- A text n times: how many bytes. -/
def ManyPost (T : Nat) (w : World) (e : Ending) (w' : World) : Prop := ∃ t : ByteArray, e = .returned (.string t) ∧ t.size = T ∧ w' = w
theorem many_step {O S j T : Nat} (h : O + S * j = T) : (O + S * (j % 2)) + (S + S) * (j / 2) = T := by
  have e : S * j = S * (2 * (j / 2)) + S * (j % 2) := by rw [← Nat.mul_add, Nat.div_add_mod]
  have e2 : (S + S) * (j / 2) = S * (2 * (j / 2)) := by rw [← Nat.two_mul, Nat.mul_comm 2 S, Nat.mul_assoc]
  omega

/-- One of some texts, of at most q bytes. -/
def StrIn (q : Nat) (v : Value) : Prop := ∃ s : ByteArray, v = .string s ∧ s.size ≤ q
set_option maxRecDepth 100000 in
theorem of_at {R K q : Nat} {w : World} {a : Option Addr} {len cap : Nat} (h : RdX w R K a len cap) (hK : K ≤ 1000000000000) (g n c : Nat) (hn : 1 ≤ n) (hn1 : n ≤ 1000) (hc : n ≤ c) (hgR : g ≠ R) (hg : g < w.heap.size)
    (hall : ∀ i, i < n → ∃ v, w.cell? ⟨g, i, none⟩ = some v ∧ StrIn q v) :
    Calls Tryz.prog 26 #[.pointer (some ⟨R, 0, none⟩), .slice (some ⟨g, 0, none⟩) n c] w fun e w' => ∃ s : ByteArray, e = .returned (.string s) ∧ s.size ≤ q ∧ RdX w' R (K + 1) a len cap ∧ Only R w w' := by
  have H := Lib.hid h
  have HA := Lib.hid hall
  clear h hall
  go_enter Tryz.func26, Tryz.ntmps26
  go_wp2_with fail
  refine (pick_atX (n := (n : Int)) H.out (by omega) (by omega) (by omega)).mono ?_
  rintro e w1 ⟨x, rfl, x0, x1, hr, ho⟩
  obtain ⟨v, hv, s, rfl, hs⟩ := HA.out x.toNat (by omega)
  have cf : w1.cell? ⟨g, x.toNat, none⟩ = some (.string s) := (World.cell?_of_block (w := w) (ho.block g hg (by simp; omega))).trans hv
  have HR := Lib.hid hr
  have HO := Lib.hid ho
  clear hr ho hv
  go_wp2_with fail
  go_ret
  exact ⟨s, rfl, hs, HR.out, HO.out⟩

/-- m words of an own row, and the reader. -/
structure SInv (w0 : World) (R K : Nat) (a : Option Addr) (len cap : Nat) (m g c : Nat) (wr : World) : Prop where
  far : len = 0 ∨ ∀ b, a = some b → b.block < w0.heap.size
  row : ∃ xs, wr.ownsRow w0.heap.size 9 1 (.slice (some ⟨g, 0, none⟩) m c) m xs ∧ ∀ v, v ∈ xs → StrIn 6000 v
  rd : RdX wr R K a len cap
  on : Only R w0 wr
  lt : R < w0.heap.size
theorem SInv.base {w0 wr : World} {R K m g c : Nat} {a : Option Addr} {len cap : Nat} (h : SInv w0 R K a len cap m g c wr) : w0.heap.size ≤ g ∧ g < wr.heap.size := by
  obtain ⟨xs, hr, _⟩ := h.row
  exact hr.lt g rfl
theorem SInv.later {w0 w w3 : World} {R K K' m g c : Nat} {a : Option Addr} {len cap : Nat} (h : SInv w0 R K a len cap m g c w) (ho : Only R w w3) (hi : RdX w3 R K' a len cap) : SInv w0 R K' a len cap m g c w3 := by
  obtain ⟨xs, hr, hv⟩ := h.row
  have hg := h.base.1
  have hlt := h.lt
  exact ⟨h.far, ⟨xs, hr.kept ho (Or.inr (by simp [Value.ownBlock]; omega)), hv⟩, hi, h.on.trans ho, h.lt⟩
theorem SInv.push {w0 w w3 w4 : World} {R K K' m g c g' c' : Nat} {a : Option Addr} {len cap : Nat} {s : ByteArray} {xs : List Value} (h : SInv w0 R K a len cap m g c w) (ho : Only R w w3) (hi : RdX w3 R K' a len cap) (hb : ∀ v, v ∈ xs → StrIn 6000 v) (hs : s.size ≤ 6000)
    (hown : w4.ownsRow w0.heap.size 9 1 (.slice (some ⟨g', 0, none⟩) (m + 1) c') (m + 1) (xs ++ [.string s]))
    (hgrow : (w3.alloc (.cells #[.string s] 9)).grownBy w4 (Value.ownBlock (.slice (some ⟨g, 0, none⟩) m c))) : SInv w0 R K' a len cap (m + 1) g' c' w4 := by
  have hsz := (h.on.trans ho).size
  have hlt := h.lt
  have hg := h.base.1
  have hb2 : Below w0.heap.size (w3.alloc (.cells #[.string s] 9)) w4 := (Below.refl _ _).grown hgrow (by simp; omega) (by intro q hq; simp [Value.ownBlock] at hq; omega)
  refine ⟨h.far, ⟨_, hown, ?_⟩, ?_, ?_, hlt⟩
  · intro v hv
    rcases List.mem_append.1 hv with hv | hv
    · exact hb v hv
    · simp at hv
      subst hv
      exact ⟨_, rfl, hs⟩
  · obtain ⟨p, hp, hrd⟩ := hi.alloc (o := .cells #[.string s] 9)
    refine ⟨p, hp, ?_⟩
    have hR := hb2.block R hlt
    refine ⟨(World.cell?_of_block (w := w3.alloc _) hR).trans hrd.c0, (World.cell?_of_block (w := w3.alloc _) hR).trans hrd.c1, (World.frozen?_of_block (w := w3.alloc _) hR).trans hrd.f1, Nat.lt_of_lt_of_le hrd.lt hb2.size, hrd.le, ?_⟩
    rcases hrd.bytes with h0 | ⟨b, off, ha, hbR, hbb, hz⟩
    · exact Or.inl h0
    · rcases h.far with h0 | hf
      · exact Or.inl h0
      · have hbw : b < w0.heap.size := hf _ ha
        refine Or.inr ⟨b, off, ha, hbR, Nat.lt_of_lt_of_le hbb hb2.size, fun j hj => ?_⟩
        obtain ⟨z, hc, hz⟩ := hz j hj
        exact ⟨z, (World.cell?_of_block (w := w3.alloc _) (hb2.block b hbw)).trans hc, hz⟩
  · have h1 := (h.on.trans ho).alloc (.cells #[.string s] 9)
    exact ⟨hb2.os.trans h1.os, hb2.tape.trans h1.tape, hb2.output.trans h1.output, Nat.le_trans h1.size hb2.size, fun i hi hne => (hb2.block i hi).trans (h1.block i hi hne)⟩
theorem SInv.start {w0 w : World} {R K : Nat} {a : Option Addr} {len cap : Nat} (hfar : len = 0 ∨ ∀ b, a = some b → b.block < w0.heap.size) (ho : Only R w0 w) (hi : RdX w R K a len cap) (hR : R < w0.heap.size) :
    SInv w0 R K a len cap 0 w.heap.size 0 (w.alloc (.cells #[] 9)) :=
  ⟨hfar, ⟨[], World.ownsRow_lit w #[] 0 ho.size (by simp [maxLen]) rfl, fun v hv => by cases hv⟩, hi.alloc, ho.alloc _, hR⟩
theorem SInv.mono {w0 w : World} {R K K' m g c : Nat} {a : Option Addr} {len cap : Nat} (h : SInv w0 R K a len cap m g c w) (hK : K ≤ K') : SInv w0 R K' a len cap m g c w :=
  ⟨h.far, h.row, h.rd.mono hK, h.on, h.lt⟩
def strOfV : Value → ByteArray
  | .string s => s
  | _ => ⟨#[]⟩
theorem SInv.own {w0 w : World} {R K m g c : Nat} {a : Option Addr} {len cap : Nat} (h : SInv w0 R K a len cap m g c w) : ∃ F : Nat → ByteArray, OwnT w g m F ∧ (∀ i, i < m → (F i).size ≤ 6000) ∧ m ≤ c := by
  obtain ⟨xs, hr, hv⟩ := h.row
  have hl := hr.1
  rcases hr.2 with ⟨h', _⟩ | ⟨g', cap', cur, h', hb, hg, hnc, _, hs, htake⟩
  · simp at h'
  · simp only [Value.slice.injEq, Option.some.injEq, Addr.mk.injEq, and_true, true_and] at h'
    obtain ⟨rfl, rfl⟩ := h'
    have hat : ∀ i, i < m → cur[i]? = some (.string (strOfV (xs.getD i undef))) ∧ (strOfV (xs.getD i undef)).size ≤ 6000 := by
      intro i hi
      have hlt : i < xs.length := by omega
      obtain ⟨s, hs1, hs2⟩ := hv xs[i] (List.getElem_mem hlt)
      have e1 : xs.getD i undef = .string s := by
        rw [List.getD_eq_getElem?_getD, List.getElem?_eq_getElem hlt]
        exact hs1
      rw [e1]
      refine ⟨?_, hs2⟩
      have e2 : cur.toList[i]? = xs[i]? := by
        rw [← htake, List.getElem?_take_of_lt (by omega)]
      rw [List.getElem?_eq_getElem hlt, hs1] at e2
      show cur[i]? = some (.string s)
      simpa using e2
    exact ⟨fun i => strOfV (xs.getD i undef), ⟨_, cur, hg, fun i hi => (hat i hi).1⟩, fun i hi => (hat i hi).2, hnc⟩

end My
end Go.Proofs.YtjmlekhgnbbjoaaGreatDoor
