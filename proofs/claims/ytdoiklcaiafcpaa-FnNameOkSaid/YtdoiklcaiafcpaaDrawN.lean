/- The drawing functions of names. -/
import Derived.Test.YtdoiklcaiafcpaaDrawA
namespace Go.Proofs.Ytdoiklcaiafcpaa
open Go.RowKit Go.Deep
set_option linter.unusedVariables false
namespace My

/-- What is drawn out of a list: one of its cells. -/
def OfPost (P : Value → Prop) (R K : Nat) (w : World) (e : Ending) (w' : World) : Prop :=
  ∃ v, e = .returned v ∧ P v ∧ RdInv w' R K ∧ Only R w w'
/-- A text of at most so many bytes. -/
def StrIn (n : Nat) (v : Value) : Prop := ∃ s : ByteArray, v = .string s ∧ s.size ≤ n

theorem of_at {P : Value → Prop} {R K L n cap : Nat} {w : World} {vs : Array Value} {t : TypeId} {fr : Nat × Nat} (h : RdInv w R K) (hK : K ≤ 1000000000000) (hL : w.heap[L]? = some (.cells vs t fr)) (hR : L ≠ R)
    (hn : vs.size = n) (hn0 : 1 ≤ n) (hn1 : n ≤ 1000000000) (hc : n ≤ cap) (hP : ∀ v, v ∈ vs → P v) :
    Calls Try.prog 37 #[.pointer (some ⟨R, 0, none⟩), .slice (some ⟨L, 0, none⟩) n cap] w (OfPost P R (K + 1) w) := by
  have HI := Lib.hid h
  have HO := Lib.hid (Only.refl R w)
  have HL := Lib.hid hL
  have HN := Lib.hid hn
  have hlt : L < w.heap.size := by
    by_cases hx : L < w.heap.size
    · exact hx
    · rw [Array.getElem?_eq_none (by omega)] at hL; cases hL
  clear h hL hn
  go_enter Try.func37, Try.ntmps37
  go_wp2_with fail
  ((with_reducible refine (pick_at (by repeat (first | exact HI.out | apply RdInv.drewN | apply RdInv.drew | apply RdInv.alloc)) (by omega) (by omega) (by omega)).mono ?_); rintro e wx ⟨x, rfl, x0, x1, hinv, hon⟩; have hO := (show Only R w _ from (by repeat (first | exact HO.out | exact Only.refl _ _ | apply Only.drewN | apply Only.drew | apply Only.alloc))).trans hon; have Hx := Lib.hid hon; clear HI HO hon; have HI := Lib.hid hinv; have HO := Lib.hid hO; clear hinv hO)
  have hx : x.toNat < vs.size := by rw [HN.out]; omega
  have hblk := (Hx.out.block L hlt (by simpa using hR)).trans HL.out
  obtain ⟨v, hv, hp⟩ : ∃ v, wx.cell? ⟨L, x.toNat, none⟩ = some v ∧ P v := ⟨vs[x.toNat], by simp [World.cell?, hblk, hx], hP _ (Array.getElem_mem hx)⟩
  clear hblk hx
  go_wp2_with fail
  go_ret
  exact ⟨v, rfl, hp, HI.out, HO.out⟩

/-- The same, where the list was built just ahead. -/
theorem of_built {P : Value → Prop} {R K n cap : Nat} {w : World} {vs : Array Value} {t : TypeId} {fr : Nat × Nat} (h : RdInv w R K) (hK : K ≤ 1000000000000)
    (hn : vs.size = n) (hn0 : 1 ≤ n) (hn1 : n ≤ 1000000000) (hc : n ≤ cap) (hP : ∀ v, v ∈ vs → P v) :
    Calls Try.prog 37 #[.pointer (some ⟨R, 0, none⟩), .slice (some ⟨w.heap.size, 0, none⟩) n cap] (w.alloc (.cells vs t fr)) (OfPost P R (K + 1) (w.alloc (.cells vs t fr))) :=
  of_at h.alloc hK (blk_alloc_new w _) (by have := h.lt; omega) hn hn0 hn1 hc hP

def StrPost (n : Nat) (w : World) (e : Ending) (w' : World) : Prop := ∃ s : ByteArray, e = .returned (.string s) ∧ s.size ≤ n ∧ Below w.heap.size w w'

theorem DrawNameOk_any (a : Option Addr) (len cap : Nat) (wB : World) (h : BytesIn wB a len cap) :
    Calls Try.prog 20 #[.slice a len cap] wB (StrPost 9 wB) := by
  go_enter Try.func20, Try.ntmps20
  go_wp2_with fail
  refine (l1Open_any _ _ _ _ h).mono ?_
  rintro e w ⟨rfl, hi, hb⟩
  have HI := Lib.hid hi
  have HB := Lib.hid hb
  obtain ⟨R, hR⟩ : ∃ R, R = wB.heap.size := ⟨_, rfl⟩
  rw [← hR] at HI ⊢
  have HRR := Lib.hid hR
  clear hi hb hR
  go_wp2_with fail
  refine (of_built (P := StrIn 9) HI.out (by omega) ?hn ?h1 ?h2 ?h3 ?hp).mono ?_
  case hn => rfl
  case h1 => decide
  case h2 => decide
  case h3 => decide
  case hp =>
    intro v hv
    simp at hv
    rcases hv with rfl | rfl | rfl | rfl | rfl | rfl | rfl
    all_goals exact ⟨_, rfl, by decide⟩
  rintro e w' ⟨v, rfl, ⟨s, rfl, hs⟩, hi', ho⟩
  go_wp2_with fail
  go_ret
  exact ⟨s, rfl, hs, drawn_below HRR.out HB.out (((Only.refl _ _).alloc _).trans ho)⟩

end My
end Go.Proofs.Ytdoiklcaiafcpaa
