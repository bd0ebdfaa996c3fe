/- The drawing function of words, whole. -/
import Derived.Test.YtjmlekhgnbbjoaaGreatDoorDrawW
namespace Go.Proofs.YtjmlekhgnbbjoaaGreatDoor
open Go.RowKit Go.Deep
set_option linter.unusedVariables false
namespace My

/-- What DrawWirePut leaves. -/
def WordsPost (w : World) (e : Ending) (w' : World) : Prop :=
  ∃ (g n c : Nat) (F : Nat → ByteArray), e = .returned (.slice (some ⟨g, 0, none⟩) n c) ∧ n ≤ 50 ∧ n ≤ c ∧ OwnT w' g n F ∧ (∀ i, i < n → (F i).size ≤ 6000) ∧ w.heap.size ≤ g ∧ Below w.heap.size w w'
theorem words_post {wB w w' : World} {R K m g c : Nat} {a : Option Addr} {len cap : Nat} (hm : SInv w R K a len cap m g c w') (hR : R = wB.heap.size) (hb : Below wB.heap.size wB w) (m1 : m ≤ 50) :
    WordsPost wB (.returned (.slice (some ⟨g, 0, none⟩) m c)) w' := by
  obtain ⟨F, ho, hF, hc⟩ := hm.own
  have h1 := hm.base.1
  have h2 := hb.size
  exact ⟨g, m, c, F, rfl, m1, hc, ho, hF, by omega, drawn_below hR hb hm.on⟩
theorem rdX_ofS {w : World} {R K : Nat} (h : RdInv w R K) : ∃ a len cap, RdX w R K a len cap ∧ (len = 0 ∨ ∀ b, a = some b → b.block < w.heap.size) := by
  obtain ⟨p, a, len, cap, hp, hr⟩ := h
  refine ⟨a, len, cap, ⟨p, hp, hr⟩, ?_⟩
  rcases hr.bytes with h0 | ⟨b, off, rfl, _, hb, _⟩
  · exact Or.inl h0
  · exact Or.inr (fun b' hb' => by cases hb'; exact hb)
theorem news_str (w : World) (v : Value) (t : TypeId) : ∀ j u, [v][j]? = some u → (w.alloc (.cells #[v] t)).cell? (Addr.add ⟨w.heap.size, 0, none⟩ j) = some u :=
  World.news_of_block (blk_alloc_new w (.cells #[v] t))

end My
end Go.Proofs.YtjmlekhgnbbjoaaGreatDoor
