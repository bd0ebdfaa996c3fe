/- A law on regions that draw their order: one obligation for each operation, in whatever order they come. An invariant of the world, a fact for each slot, both kept by every step. No program in sight. -/
import Derived.Orders
import Derived.WalkKit
namespace Go.Proofs.YtjmlekhgnbbjoaaGreatDoor
open Go.RowKit
set_option linter.unusedVariables false
namespace My

/-- The frame in which the slots ds hold what f says. -/
def goFrame (ds : List Nat) (f : Nat → Value) : Nat → List Value → List Value
  | _, [] => []
  | k, v :: r => (match ds.contains k with | true => f k | false => v) :: goFrame ds f (k + 1) r
def frameOf (b : Act) (ds : List Nat) (f : Nat → Value) : Act := { tmps := (goFrame ds f 0 b.tmps.toList).toArray, defers := b.defers }
theorem goFrame_get (ds : List Nat) (f : Nat → Value) : ∀ (l : List Value) (k i : Nat), (goFrame ds f k l)[i]? = l[i]?.map fun v => if ds.contains (k + i) then f (k + i) else v
  | [], k, i => by simp [goFrame]
  | v :: r, k, 0 => by
    simp only [goFrame, List.getElem?_cons_zero, Option.map_some, Nat.add_zero]
    cases ds.contains k <;> rfl
  | v :: r, k, i + 1 => by
    simp only [goFrame, List.getElem?_cons_succ]
    rw [goFrame_get ds f r (k + 1) i, show k + 1 + i = k + (i + 1) from by omega]
theorem frameOf_get (b : Act) (ds : List Nat) (f : Nat → Value) (i : Nat) : (frameOf b ds f).tmps[i]? = b.tmps[i]?.map fun v => if ds.contains i then f i else v := by
  simp only [frameOf, List.getElem?_toArray]
  rw [goFrame_get]
  simp
def upd (f : Nat → Value) (d : Nat) (v : Value) : Nat → Value := fun k => if k = d then v else f k

theorem goFrame_length (ds : List Nat) (f : Nat → Value) : ∀ (l : List Value) (k : Nat), (goFrame ds f k l).length = l.length
  | [], k => rfl
  | v :: r, k => by simp [goFrame, goFrame_length ds f r (k + 1)]
theorem frameOf_size (b : Act) (ds : List Nat) (f : Nat → Value) : (frameOf b ds f).tmps.size = b.tmps.size := by
  simp [frameOf, goFrame_length]

theorem frameOf_put (b : Act) (ds : List Nat) (f : Nat → Value) (d : Nat) (v : Value) (hd : ds.contains d = true) : (frameOf b ds f).put (some d) v = frameOf b ds (upd f d v) := by
  have hd' : d ∈ ds := by simpa using hd
  have e : ∀ a a' : Act, a.tmps = a'.tmps → a.defers = a'.defers → a = a' := by
    intro a a' h k; cases a; cases a'; simp_all
  refine e _ _ ?_ rfl
  apply Array.ext_getElem?
  intro i
  show ((frameOf b ds f).tmps.setIfInBounds d v)[i]? = _
  have hsz : (frameOf b ds f).tmps.size = b.tmps.size := frameOf_size b ds f
  rw [Array.getElem?_setIfInBounds, frameOf_get, frameOf_get, hsz]
  simp only [upd]
  by_cases e : d = i
  · subst e
    rw [if_pos rfl]
    by_cases hs : d < b.tmps.size
    · simp [hs, hd']
    · simp [hs]
  · have e' : ¬ i = d := fun h => e h.symm
    simp [e, e']
theorem frameOf_self (b : Act) (ds : List Nat) : frameOf b ds (fun k => b.tmps.getD k undef) = b := by
  have e : ∀ a a' : Act, a.tmps = a'.tmps → a.defers = a'.defers → a = a' := by
    intro a a' h k; cases a; cases a'; simp_all
  refine e _ _ ?_ rfl
  apply Array.ext_getElem?
  intro i
  rw [frameOf_get]
  by_cases hi : i < b.tmps.size
  · simp [hi]
  · simp [hi]

section
variable {P : Program}

/-- What an operation's predecessors have laid. -/
def AfterOk (ops : Array Oper) (G : Nat → Value → World → Prop) (f : Nat → Value) (w : World) : List Edge → Prop
  | [] => True
  | e :: r => (match Region.binds .any e, ops[e.on]? with
    | true, some oj => (match oj.dst with | some d => G d (f d) w | none => True)
    | _, _ => True) ∧ AfterOk ops G f w r

/-- One operation's obligation. -/
def StepOk (P : Program) (ops : Array Oper) (Q : Exit → Act → World → Prop) (G : Nat → Value → World → Prop) (I : Nat → World → Prop) (S : World → World → Prop) (b : Act) (ds : List Nat) (w : World) (o : Oper) : Prop :=
  ∀ n f w1, n < ops.size → I n w1 → S w w1 → AfterOk ops G f w1 o.after.toList →
    o.wp P (frameOf b ds f) w1 (fun a' w2 => ∃ v, a' = (frameOf b ds f).put o.dst v ∧ I (n + 1) w2 ∧ S w1 w2 ∧ (∀ d, o.dst = some d → G d v w2)) Q
def StepAll (P : Program) (ops : Array Oper) (Q : Exit → Act → World → Prop) (G : Nat → Value → World → Prop) (I : Nat → World → Prop) (S : World → World → Prop) (b : Act) (ds : List Nat) (w : World) : List Oper → Prop
  | [] => True
  | o :: r => StepOk P ops Q G I S b ds w o ∧ StepAll P ops Q G I S b ds w r

/-- The shape that is asked: no guard, each operation behind smaller ones alone, its slot among ds. -/
def shapeOk (ds : List Nat) : Nat → List Oper → Bool
  | _, [] => true
  | i, o :: r => (o.guard.isNone && o.after.toList.all (fun e => !Region.binds .any e || decide (e.on < i)) && (match o.dst with | some d => ds.contains d | none => true)) && shapeOk ds (i + 1) r

theorem StepAll.get {ops : Array Oper} {Q : Exit → Act → World → Prop} {G : Nat → Value → World → Prop} {I : Nat → World → Prop} {S : World → World → Prop} {b : Act} {ds : List Nat} {w : World} :
    ∀ {l : List Oper} {i : Nat} {o : Oper}, StepAll P ops Q G I S b ds w l → l[i]? = some o → StepOk P ops Q G I S b ds w o
  | [], i, o, _, h => by simp at h
  | x :: r, 0, o, hs, h => by simp at h; subst h; exact hs.1
  | x :: r, i + 1, o, hs, h => StepAll.get (l := r) (i := i) hs.2 (by simpa using h)
theorem shapeOk.get {ds : List Nat} : ∀ {l : List Oper} {n i : Nat} {o : Oper}, shapeOk ds n l = true → l[i]? = some o →
    o.guard = none ∧ (∀ e ∈ o.after.toList, Region.binds .any e = true → e.on < n + i) ∧ (∀ d, o.dst = some d → ds.contains d = true)
  | [], n, i, o, _, h => by simp at h
  | x :: r, n, 0, o, hs, h => by
    simp at h; subst h
    simp only [shapeOk, Bool.and_eq_true, List.all_eq_true, Option.isNone_iff_eq_none] at hs
    refine ⟨hs.1.1.1, fun e he hb => by have := hs.1.1.2 e he; rw [hb] at this; simpa using this, fun d hd => ?_⟩
    have := hs.1.2
    rw [hd] at this
    exact this
  | x :: r, n, i + 1, o, hs, h => by
    simp only [shapeOk, Bool.and_eq_true] at hs
    obtain ⟨h1, h2, h3⟩ := shapeOk.get (l := r) (n := n + 1) (i := i) hs.2 (by simpa using h)
    exact ⟨h1, fun e he hb => by have := h2 e he hb; omega, h3⟩

theorem afterOk_of {ops : Array Oper} {G : Nat → Value → World → Prop} {f : Nat → Value} {w : World} : ∀ {es : List Edge},
    (∀ e ∈ es, Region.binds .any e = true → ∀ oj d, ops[e.on]? = some oj → oj.dst = some d → G d (f d) w) → AfterOk ops G f w es
  | [], _ => trivial
  | e :: r, h => by
    refine ⟨?_, afterOk_of (fun e' he' => h e' (List.mem_cons_of_mem _ he'))⟩
    split
    · rename_i oj hb ho
      split
      · rename_i d hd
        exact h e (List.mem_cons_self ..) hb oj d ho hd
      · trivial
    · trivial

/-- What has been laid so far. -/
structure Laid (ops : Array Oper) (G : Nat → Value → World → Prop) (I : Nat → World → Prop) (S : World → World → Prop) (b : Act) (ds : List Nat) (w : World) (n : Nat) (listed : Array Bool) (a : Act) (w1 : World) : Prop where
  size : listed.size = ops.size
  count : n + (listed.toList.filter (fun x => !x)).length = ops.size
  frame : ∃ f, a = frameOf b ds f ∧ I n w1 ∧ S w w1 ∧ ∀ i o d, listed.getD i false = true → ops[i]? = some o → o.dst = some d → G d (f d) w1

theorem filter_set_eq {l : Array Bool} {i : Nat} (h : i < l.size) (hf : l[i] = false) :
    ((l.setIfInBounds i true).toList.filter (fun x => !x)).length + 1 = (l.toList.filter (fun x => !x)).length := by
  have h1 : (l.setIfInBounds i true).toList = l.toList.set i true := by simp
  rw [h1]
  have gen : ∀ (m : List Bool) (j : Nat), m[j]? = some false → ((m.set j true).filter (fun x => !x)).length + 1 = (m.filter (fun x => !x)).length := by
    intro m
    induction m with
    | nil => intro j hj; simp at hj
    | cons x r ih =>
      intro j hj
      cases j with
      | zero => simp at hj; subst hj; simp
      | succ j =>
        have := ih j (by simpa using hj)
        cases x <;> simp <;> omega
  exact gen _ _ (by simp [h, hf])

theorem wp_region_inv {l : List Oper} {Q : Exit → Act → World → Prop} {id : Nat} {b : Act} {w : World} (hm : P.follows .mixedOrders = true) (ds : List Nat)
    (G : Nat → Value → World → Prop) (I : Nat → World → Prop) (S : World → World → Prop) (S_refl : ∀ w, S w w) (S_trans : ∀ x y z, S x y → S y z → S x z)
    (stable : ∀ d v w w', S w w' → G d v w → G d v w') (hsh : shapeOk ds 0 l = true) (I0 : I 0 w.drew)
    (hstep : StepAll P l.toArray Q G I S b ds w.drew l)
    (hend : ∀ n f w1, n ≤ l.length → I n w1 → S w.drew w1 → (∀ (i : Nat) (o : Oper) (d : Nat), l[i]? = some o → o.dst = some d → G d (f d) w1) → Q .normal (frameOf b ds f) w1) :
    (Code.region id l.toArray true).wp P Q b w := by
  refine wp_region_any hm ?_
  have key : ∀ fuel n listed a w1, (listed.toList.filter (fun x => !x)).length ≤ fuel → Laid l.toArray G I S b ds w.drew n listed a w1 → wpAny P .any l.toArray Q fuel listed a w1 := by
    have done : ∀ n listed a w1, Laid l.toArray G I S b ds w.drew n listed a w1 → Region.ready .any l.toArray listed = [] → Q .normal a w1 := by
      intro nn listed a w1 hl hr
      obtain ⟨hsz, hct, f, rfl, hI, hS, hG⟩ := hl
      refine hend nn f w1 (by have : l.toArray.size = l.length := by simp
                              omega) hI hS (fun i o d ho hd => hG i o d ?_ (by simpa using ho) hd)
      have all : ∀ n i, i < n → i < l.length → listed.getD i false = true := by
        intro n
        induction n with
        | zero => intro i hi; omega
        | succ n ih =>
          intro i hi hil
          by_cases hc : listed.getD i false = true
          · exact hc
          · exfalso
            have hmem : i ∈ Region.ready .any l.toArray listed := by
              rw [Region.ready, List.mem_filter]
              refine ⟨by simp [hil], ?_⟩
              have h1 : listed.getD i true = false := by
                have : i < listed.size := by rw [hsz]; simpa using hil
                simp only [Array.getD, this, dif_pos] at hc ⊢
                simpa using hc
              rw [h1]
              have ho' : l[i]? = some l[i] := List.getElem?_eq_getElem hil
              have ho2 : l.toArray[i]? = some l[i] := by simp [hil]
              rw [ho2]
              simp only [Bool.not_false, Bool.true_and, Option.map_some, Option.getD_some, Array.all_eq_true']
              intro e he
              cases hb : Region.binds .any e
              · simp
              · have hlt := (shapeOk.get hsh ho').2.1 e (by simpa using he) hb
                rw [ih e.on (by omega) (by omega)]
                simp
            rw [hr] at hmem
            cases hmem
      have hil : i < l.length := by
        rw [List.getElem?_eq_some_iff] at ho
        exact ho.1
      exact all (i + 1) i (by omega) hil
    intro fuel
    induction fuel with
    | zero =>
      intro nn listed a w1 hn hl
      have hr : Region.ready .any l.toArray listed = [] := by
        rw [Region.ready, List.filter_eq_nil_iff]
        intro i hi
        have hil : i < l.length := by simpa using hi
        have hlt : i < listed.size := by rw [hl.size]; simpa using hil
        have hx : listed[i] = true := by
          by_cases hc : listed[i] = true
          · exact hc
          · have hm : listed[i] ∈ listed.toList.filter (fun x => !x) := by
              rw [List.mem_filter]
              exact ⟨by simp, by simpa using hc⟩
            have : 0 < (listed.toList.filter (fun x => !x)).length := List.length_pos_of_mem hm
            omega
        simp [Array.getD, hlt, hx]
      exact ⟨hr, done nn listed a w1 hl hr⟩
    | succ fuel ih =>
      intro nn listed a w1 hn hl
      refine ⟨fun hr => done nn listed a w1 hl hr, fun i hi => ?_⟩
      obtain ⟨hsz, hct, f, rfl, hI, hS, hG⟩ := hl
      rw [Region.ready, List.mem_filter] at hi
      obtain ⟨hir, hi⟩ := hi
      have hil : i < l.length := by simpa using hir
      have hlt : i < listed.size := by rw [hsz]; simpa using hil
      have ho' : l[i]? = some l[i] := List.getElem?_eq_getElem hil
      have ho2 : l.toArray[i]? = some l[i] := by simp [hil]
      rw [ho2] at hi
      simp only [Bool.and_eq_true, Bool.not_eq_true', Option.map_some, Option.getD_some, Array.all_eq_true'] at hi
      obtain ⟨hun, haf⟩ := hi
      obtain ⟨hgu, _, hds⟩ := shapeOk.get hsh ho'
      unfold wpOp
      rw [ho2]
      simp only [Region.wanted, hgu, if_true]
      left
      have hfi : listed[i] = false := by simpa [Array.getD, hlt] using hun
      have hcc := filter_set_eq hlt hfi
      have hst := hstep.get ho' nn f w1 (by omega) hI hS (afterOk_of (fun e he hb oj d hoj hd => hG e.on oj d (by
        have := haf e (by simpa using he)
        simpa [hb] using this) hoj hd))
      refine Oper.wp_mono ?_ hst
      rintro a' w2 ⟨v, rfl, hI2, hS2, hG2⟩
      refine ih (nn + 1) _ _ _ (by omega) ⟨by simp [hsz], by omega, ?_⟩
      · cases hd : l[i].dst with
        | none =>
          refine ⟨f, rfl, hI2, S_trans _ _ _ hS hS2, ?_⟩
          intro j oj d hj hoj hdj
          by_cases e : j = i
          · subst e; rw [ho2] at hoj; cases hoj; rw [hd] at hdj; cases hdj
          · refine stable _ _ _ _ hS2 (hG j oj d ?_ hoj hdj)
            rwa [getD_set_ne _ (Ne.symm e)] at hj
        | some d0 =>
          refine ⟨upd f d0 v, frameOf_put b ds f d0 v (hds d0 hd), hI2, S_trans _ _ _ hS hS2, ?_⟩
          intro j oj d hj hoj hdj
          by_cases e : d = d0
          · subst e; simp only [upd, if_true]; exact hG2 d hd
          · simp only [upd, if_neg e]
            refine stable _ _ _ _ hS2 (hG j oj d ?_ hoj hdj)
            have hne : j ≠ i := by
              intro h; subst h; rw [ho2] at hoj; cases hoj; rw [hd] at hdj; cases hdj; exact e rfl
            rwa [getD_set_ne _ (Ne.symm hne)] at hj
  refine key _ 0 _ _ _ ?_ ⟨by simp, by simp, _, (frameOf_self b ds).symm, I0, S_refl _, ?_⟩
  · simp
  · intro i o d hi ho hd
    simp [Array.getD] at hi
end

end My
end Go.Proofs.YtjmlekhgnbbjoaaGreatDoor
