/- How the laws' arguments are opened: what a value that came in is in memory. -/
import Derived.Test.YtdoiklcaiafcpaaTier
import Derived.Deep.SlicePairs
import Derived.ProofKit
namespace Go.Proofs.Ytdoiklcaiafcpaa
open Go.RowKit Go.Deep
set_option linter.unusedVariables false
namespace My

theorem addr_add (b off n : Nat) : Addr.add ⟨b, off, none⟩ n = ⟨b, off + n, none⟩ := by
  by_cases h : n = 0 <;> simp [Addr.add, h]

/-- A slice of marks that came in. -/
theorem openMarks {H : Type} {enc : TypeId × Value → H} {W : World} {a : Option Addr} {len cap : Nat} {d : DataW H} {p : List MemPlace}
    (h : DataW.Trod enc Try.prog W 0 (fun _ => true) true 43 (.slice a len cap) d p) :
    ∃ ms, (len = 0 ∧ ms = []) ∨ ∃ b off, a = some ⟨b, off, none⟩ ∧ len = ms.length ∧ len ≤ cap ∧ len ≤ maxLen ∧ MarksAt W b off ms := by
  obtain ⟨fuel, hf⟩ := h
  rcases open_slice_pairs Try.underlying43 Try.underlying61 (by kernel_rfl) rfl rfl (by kernel_rfl) (by kernel_rfl) hf with ⟨hcs, _⟩ | ⟨x, l, c, m, n, V0, V1, D0, D1, P0, P1, hcs, _, hl, hc, hm, _, hx⟩
  · simp [Value.cells] at hcs
    obtain ⟨rfl, rfl, rfl⟩ := hcs
    exact ⟨[], .inl ⟨rfl, rfl⟩⟩
  · simp [Value.cells] at hcs
    obtain ⟨rfl, rfl, rfl⟩ := hcs
    by_cases h0 : len = 0
    · exact ⟨[], .inl ⟨h0, rfl⟩⟩
    · have hlm : len ≤ m := by rw [hm]; split <;> omega
      have hint : ∀ i, i < len → ∃ q : Int × Int, V0 i = .int .i64 q.1 ∧ V1 i = .int .i64 q.2 := by
        intro i hi
        obtain ⟨_, _, t0, t1⟩ := hx i (by omega)
        obtain ⟨u, e0, _, _⟩ := DataW.trod_int Try.underlying3 t0
        obtain ⟨v, e1, _, _⟩ := DataW.trod_int Try.underlying3 t1
        simp at e0 e1
        exact ⟨(u, v), e0, e1⟩
      obtain ⟨g, hg⟩ := choose_lt hint
      obtain ⟨b, off, spot⟩ := x
      have hspot : spot = none := by simpa [Addr.add] using World.cell?_spot (hx 0 (by omega)).1
      subst hspot
      have hb : b < W.heap.size := World.block_lt_of_cell? W _ (hx 0 (by omega)).1
      refine ⟨(List.range len).map g, .inr ⟨b, off, rfl, by simp, hl, by omega, ?_, ?_, hb⟩⟩
      · intro k hk
        have hk' : k < len := by simpa using hk
        have := (hx k (by omega)).1
        rw [(hg k hk').1, addr_add] at this
        simpa [mF, hk'] using this
      · intro k hk
        have hk' : k < len := by simpa using hk
        have := (hx k (by omega)).2.1
        rw [(hg k hk').2, addr_add, ← Nat.add_assoc] at this
        simpa [mP, hk'] using this

end My
end Go.Proofs.Ytdoiklcaiafcpaa
