/- Drawn rules in memory: what lies in the rows that are done, and l4Kids. -/
import Derived.Test.YtjmlekhgnbbjoaaGreatDoorDec
import Derived.Test.YtjmlekhgnbbjoaaGreatDoorTier
import Derived.Test.YtjmlekhgnbbjoaaGreatDoorDrawA
import Derived.Deep.AppendLies
namespace Go.Proofs.YtjmlekhgnbbjoaaGreatDoor
open Go.RowKit Go.Deep
set_option linter.unusedVariables false
namespace My

/-- What a row that is done holds: n rules of a height, or n marks. -/
inductive BK where
  | rules (h n : Nat)
  | marks (n : Nat)

def nilV : Value := .slice none 0 0
/-- How many kids. -/
def kidsN (op : Int) : Nat := if op = 1 ∨ op = 2 then 0 else if op = 10 then 1 else if op = 6 then 3 else if op = 9 then 4 else 2

/-- The marks of a rule. -/
def MarkC (S : Nat → Option BK) (op : Int) (marks : Value) : Prop :=
  (op ≠ 10 ∧ marks = .slice none 0 0) ∨ (op = 10 ∧ ∃ g n c, marks = .slice (some ⟨g, 0, none⟩) n c ∧ 1 ≤ n ∧ n ≤ 4 ∧ n ≤ c ∧ S g = some (.marks n))
/-- A drawn rule of a height below d. -/
def RuleC (S : Nat → Option BK) (d : Nat) (op num : Int) (s : ByteArray) (kids marks : Value) : Prop :=
  (op = 1 ∧ (-1000000000000 ≤ num ∧ num ≤ 1000000000000) ∧ s = ⟨#[]⟩ ∧ kids = .slice none 0 0 ∧ marks = .slice none 0 0) ∨
  (op = 2 ∧ num = 0 ∧ s.size ≤ 10 ∧ kids = .slice none 0 0 ∧ marks = .slice none 0 0) ∨
  (3 ≤ op ∧ op ≤ 10 ∧ num = 0 ∧ s = ⟨#[]⟩ ∧ (∃ g c h, kids = .slice (some ⟨g, 0, none⟩) (kidsN op) c ∧ kidsN op ≤ c ∧ S g = some (.rules h (kidsN op)) ∧ h < d) ∧ MarkC S op marks)
def RuleV (S : Nat → Option BK) (d : Nat) (v : Value) : Prop := ∃ op num s kids marks, v = .agg #[.int .i64 op, .int .i64 num, .string s, kids, marks] ∧ RuleC S d op num s kids marks

/-- Each row that is done holds what it should. -/
def RowsIn (S : Nat → Option BK) (w : World) : Prop := ∀ b k, S b = some k → b < w.heap.size ∧ match k with
  | .rules h n => ∀ i, i < n → ∃ op num s kids marks, RuleC S h op num s kids marks ∧ w.cell? ⟨b, i * 5, none⟩ = some (.int .i64 op) ∧ w.cell? ⟨b, i * 5 + 1, none⟩ = some (.int .i64 num) ∧ w.cell? ⟨b, i * 5 + 2, none⟩ = some (.string s) ∧ w.cell? ⟨b, i * 5 + 3, none⟩ = some kids ∧ w.cell? ⟨b, i * 5 + 4, none⟩ = some marks
  | .marks n => ∃ ms : List (Int × Int), ms.length = n ∧ MarksAt w b 0 ms ∧ ∀ i, i < n → (0 ≤ mF ms i ∧ mF ms i ≤ 1000000000) ∧ (0 ≤ mP ms i ∧ mP ms i ≤ 1000000000)

/-- More rows are done. -/
def More (n : Nat) (S S' : Nat → Option BK) : Prop := (∀ b k, S b = some k → S' b = some k) ∧ ∀ b, b < n → S' b = S b
theorem More.refl (n : Nat) (S : Nat → Option BK) : More n S S := ⟨fun _ _ h => h, fun _ _ => rfl⟩
theorem More.trans {n m : Nat} {S T U : Nat → Option BK} (h : More n S T) (k : More m T U) (hm : n ≤ m) : More n S U :=
  ⟨fun b x hb => k.1 b x (h.1 b x hb), fun b hb => (k.2 b (Nat.lt_of_lt_of_le hb hm)).trans (h.2 b hb)⟩
theorem RuleC.more {n d : Nat} {S S' : Nat → Option BK} {op num : Int} {s : ByteArray} {kids marks : Value} (h : RuleC S d op num s kids marks) (hm : More n S S') : RuleC S' d op num s kids marks := by
  rcases h with h | h | ⟨h1, h2, h3, h4, ⟨g, c, q, e, hc, hs, hq⟩, hk⟩
  · exact Or.inl h
  · exact Or.inr (Or.inl h)
  · refine Or.inr (Or.inr ⟨h1, h2, h3, h4, ⟨g, c, q, e, hc, hm.1 _ _ hs, hq⟩, ?_⟩)
    rcases hk with hk | ⟨h5, g2, n2, c2, e2, h6, h7, h8, h9⟩
    · exact Or.inl hk
    · exact Or.inr ⟨h5, g2, n2, c2, e2, h6, h7, h8, hm.1 _ _ h9⟩
theorem RuleC.mono {d d' : Nat} {S : Nat → Option BK} {op num : Int} {s : ByteArray} {kids marks : Value} (h : RuleC S d op num s kids marks) (hd : d ≤ d') : RuleC S d' op num s kids marks := by
  rcases h with h | h | ⟨h1, h2, h3, h4, ⟨g, c, q, e, hc, hs, hq⟩, hk⟩
  · exact Or.inl h
  · exact Or.inr (Or.inl h)
  · exact Or.inr (Or.inr ⟨h1, h2, h3, h4, ⟨g, c, q, e, hc, hs, by omega⟩, hk⟩)
theorem RuleV.more {n d : Nat} {S S' : Nat → Option BK} {v : Value} (h : RuleV S d v) (hm : More n S S') : RuleV S' d v := by
  obtain ⟨op, num, s, kids, marks, e, h⟩ := h
  exact ⟨op, num, s, kids, marks, e, h.more hm⟩
theorem RuleV.mono {d d' : Nat} {S : Nat → Option BK} {v : Value} (h : RuleV S d v) (hd : d ≤ d') : RuleV S d' v := by
  obtain ⟨op, num, s, kids, marks, e, h⟩ := h
  exact ⟨op, num, s, kids, marks, e, h.mono hd⟩
theorem RowsIn.of_block {S : Nat → Option BK} {w w' : World} (h : RowsIn S w) (hs : w.heap.size ≤ w'.heap.size) (hb : ∀ b k, S b = some k → w'.heap[b]? = w.heap[b]?) : RowsIn S w' := by
  intro b k hk
  obtain ⟨hlt, hr⟩ := h b k hk
  have e := hb b k hk
  refine ⟨Nat.lt_of_lt_of_le hlt hs, ?_⟩
  cases k with
  | rules q n =>
    intro i hi
    obtain ⟨op, num, s, kids, marks, hc, h0, h1, h2, h3, h4⟩ := hr i hi
    exact ⟨op, num, s, kids, marks, hc, (World.cell?_of_block (w := w) e).trans h0, (World.cell?_of_block (w := w) e).trans h1, (World.cell?_of_block (w := w) e).trans h2, (World.cell?_of_block (w := w) e).trans h3, (World.cell?_of_block (w := w) e).trans h4⟩
  | marks n =>
    obtain ⟨ms, hl, hm, hb⟩ := hr
    exact ⟨ms, hl, ⟨fun i hi => (World.cell?_of_block (w := w) e).trans (hm.f i hi), fun i hi => (World.cell?_of_block (w := w) e).trans (hm.p i hi), Nat.lt_of_lt_of_le hm.lt hs⟩, hb⟩
theorem RowsIn.below {S : Nat → Option BK} {w w' : World} (h : RowsIn S w) (hb : Below w.heap.size w w') : RowsIn S w' :=
  h.of_block hb.size (fun b k hk => hb.block b (h b k hk).1)
theorem RowsIn.only {S : Nat → Option BK} {w w' : World} {R : Nat} (h : RowsIn S w) (ho : Only R w w') (hR : S R = none) : RowsIn S w' :=
  h.of_block ho.size (fun b k hk => ho.block b (h b k hk).1 (by intro e; cases e; rw [hR] at hk; cases hk))
theorem RowsIn.fresh {S : Nat → Option BK} {w : World} (h : RowsIn S w) {b : Nat} (hb : w.heap.size ≤ b) : S b = none := by
  cases e : S b with
  | none => rfl
  | some k => exact absurd (h b k e).1 (by omega)
/-- One more row is done. -/
def addK (S : Nat → Option BK) (g : Nat) (k : BK) : Nat → Option BK := fun b => if b = g then some k else S b
theorem addK_self (S : Nat → Option BK) (g : Nat) (k : BK) : addK S g k g = some k := by simp [addK]
theorem addK_more {S : Nat → Option BK} {g n : Nat} {k : BK} (hg : S g = none) (hn : n ≤ g) : More n S (addK S g k) := by
  refine ⟨fun b x hb => ?_, fun b hb => ?_⟩
  · unfold addK
    by_cases e : b = g
    · subst e; rw [hg] at hb; cases hb
    · rw [if_neg e]; exact hb
  · unfold addK
    rw [if_neg (by omega)]
theorem RowsIn.addRules {S : Nat → Option BK} {w : World} {g h n : Nat} (hr : RowsIn S w) (hg : S g = none) (hlt : g < w.heap.size)
    (hc : ∀ i, i < n → ∃ op num s kids marks, RuleC S h op num s kids marks ∧ w.cell? ⟨g, i * 5, none⟩ = some (.int .i64 op) ∧ w.cell? ⟨g, i * 5 + 1, none⟩ = some (.int .i64 num) ∧ w.cell? ⟨g, i * 5 + 2, none⟩ = some (.string s) ∧ w.cell? ⟨g, i * 5 + 3, none⟩ = some kids ∧ w.cell? ⟨g, i * 5 + 4, none⟩ = some marks) : RowsIn (addK S g (.rules h n)) w := by
  have hm : More 0 S (addK S g (.rules h n)) := addK_more hg (Nat.zero_le _)
  intro b k hk
  by_cases e : b = g
  · subst e
    rw [addK_self] at hk
    cases hk
    refine ⟨hlt, fun i hi => ?_⟩
    obtain ⟨op, num, s, kids, marks, h1, h2⟩ := hc i hi
    exact ⟨op, num, s, kids, marks, h1.more hm, h2⟩
  · have hk' : S b = some k := by
      unfold addK at hk
      rwa [if_neg e] at hk
    obtain ⟨hb, hrow⟩ := hr b k hk'
    refine ⟨hb, ?_⟩
    cases k with
    | rules q m =>
      intro i hi
      obtain ⟨op, num, s, kids, marks, h1, h2⟩ := hrow i hi
      exact ⟨op, num, s, kids, marks, h1.more hm, h2⟩
    | marks m => exact hrow
theorem RowsIn.addMarks {S : Nat → Option BK} {w : World} {g n : Nat} (hr : RowsIn S w) (hg : S g = none) (hlt : g < w.heap.size)
    (hc : ∃ ms : List (Int × Int), ms.length = n ∧ MarksAt w g 0 ms ∧ ∀ i, i < n → (0 ≤ mF ms i ∧ mF ms i ≤ 1000000000) ∧ (0 ≤ mP ms i ∧ mP ms i ≤ 1000000000)) : RowsIn (addK S g (.marks n)) w := by
  have hm : More 0 S (addK S g (.marks n)) := addK_more hg (Nat.zero_le _)
  intro b k hk
  by_cases e : b = g
  · subst e
    rw [addK_self] at hk
    cases hk
    exact ⟨hlt, hc⟩
  · have hk' : S b = some k := by
      unfold addK at hk
      rwa [if_neg e] at hk
    obtain ⟨hb, hrow⟩ := hr b k hk'
    refine ⟨hb, ?_⟩
    cases k with
    | rules q m =>
      intro i hi
      obtain ⟨op, num, s, kids, marks, h1, h2⟩ := hrow i hi
      exact ⟨op, num, s, kids, marks, h1.more hm, h2⟩
    | marks m => exact hrow

theorem l4Kids_any (op : Int) (w : World) (h1 : 1 ≤ op) (h2 : op ≤ 10) :
    Calls Tryz.prog 94 #[.int .i64 op] w fun e w' => e = .returned (.int .i64 (kidsN op)) ∧ w = w' := by
  have : op = 1 ∨ op = 2 ∨ op = 3 ∨ op = 4 ∨ op = 5 ∨ op = 6 ∨ op = 7 ∨ op = 8 ∨ op = 9 ∨ op = 10 := by omega
  rcases this with rfl | rfl | rfl | rfl | rfl | rfl | rfl | rfl | rfl | rfl
  all_goals
    go_enter Tryz.func94, Tryz.ntmps94
    go_wp2_with fail
    go_ret
    exact ⟨rfl, rfl⟩

end My
end Go.Proofs.YtjmlekhgnbbjoaaGreatDoor
