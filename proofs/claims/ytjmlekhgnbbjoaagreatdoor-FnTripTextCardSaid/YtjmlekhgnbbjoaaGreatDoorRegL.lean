/- A law on regions that draw their order, whose last operation is the last in every order. No program in sight. -/
import Derived.Test.YtjmlekhgnbbjoaaGreatDoorReg
namespace Go.Proofs.YtjmlekhgnbbjoaaGreatDoor
open Go.RowKit
set_option linter.unusedVariables false
namespace My

/-- Each operation but the last has one that waits for it. -/
def depB (ops : List Oper) : Bool := (List.range (ops.length - 1)).all fun i => ops.any fun oj => oj.after.toList.any fun e => Region.binds .any e && (e.on == i)
theorem depB_get {ops : List Oper} (h : depB ops = true) {i : Nat} (hi : i < ops.length - 1) : ∃ (j : Nat) (oj : Oper) (e : Edge), ops[j]? = some oj ∧ e ∈ oj.after.toList ∧ Region.binds .any e = true ∧ e.on = i := by
  unfold depB at h
  rw [List.all_eq_true] at h
  have := h i (List.mem_range.2 hi)
  rw [List.any_eq_true] at this
  obtain ⟨oj, hj, h2⟩ := this
  rw [List.any_eq_true] at h2
  obtain ⟨e, he, h3⟩ := h2
  rw [Bool.and_eq_true] at h3
  obtain ⟨j, hj⟩ := List.getElem?_of_mem hj
  exact ⟨j, oj, e, hj, he, h3.1, by simpa using h3.2⟩

section
variable {P : Program}

structure LaidL (ops : Array Oper) (last : Nat) (G : Nat → Value → World → Prop) (I : Nat → World → Prop) (S : World → World → Prop) (b : Act) (ds : List Nat) (w : World) (n : Nat) (listed : Array Bool) (a : Act) (w1 : World) : Prop where
  size : listed.size = ops.size
  count : n + (listed.toList.filter (fun x => !x)).length = ops.size
  frame : ∃ f, a = frameOf b ds f ∧ I n w1 ∧ S w w1 ∧ ∀ i o d, listed.getD i false = true → ops[i]? = some o → o.dst = some d → G d (f d) w1
  closed : ∀ i o, listed.getD i false = true → ops[i]? = some o → ∀ e ∈ o.after.toList, Region.binds .any e = true → listed.getD e.on false = true
  open_ : listed.getD last false = false

theorem ready_get {ops : Array Oper} {listed : Array Bool} {i : Nat} (h : i ∈ Region.ready .any ops listed) (hs : listed.size = ops.size) :
    i < ops.size ∧ listed.getD i false = false ∧ ∀ o, ops[i]? = some o → ∀ e ∈ o.after.toList, Region.binds .any e = true → listed.getD e.on false = true := by
  rw [Region.ready, List.mem_filter] at h
  obtain ⟨hir, hi⟩ := h
  have hil : i < ops.size := by simpa using hir
  have hlt : i < listed.size := by omega
  simp only [Bool.and_eq_true, Bool.not_eq_true'] at hi
  refine ⟨hil, ?_, ?_⟩
  · have := hi.1
    simp only [Array.getD, hlt, dif_pos] at this ⊢
    simpa using this
  · intro o ho e he hb
    have h2 := hi.2
    rw [ho] at h2
    simp only [Option.map_some, Option.getD_some, Array.all_eq_true'] at h2
    have := h2 e (by simpa using he)
    simpa [hb] using this
theorem getD_set_self {l : Array Bool} {i : Nat} (h : i < l.size) : (l.setIfInBounds i true).getD i false = true := by
  simp [Array.getD, h]

theorem wp_region_last {l : List Oper} {o : Oper} {Q : Exit → Act → World → Prop} {id : Nat} {b : Act} {w : World} (hm : P.follows .mixedOrders = true) (ds : List Nat)
    (G : Nat → Value → World → Prop) (I : Nat → World → Prop) (S : World → World → Prop) (S_refl : ∀ w, S w w) (S_trans : ∀ x y z, S x y → S y z → S x z)
    (stable : ∀ d v w w', S w w' → G d v w → G d v w') (hsh : shapeOk ds 0 (l ++ [o]) = true) (hdep : depB (l ++ [o]) = true) (I0 : I 0 w.drew)
    (hstep : StepAll P (l ++ [o]).toArray Q G I S b ds w.drew l)
    (hend : ∀ n f w1, n ≤ l.length → I n w1 → S w.drew w1 → (∀ (i : Nat) (oi : Oper) (d : Nat), l[i]? = some oi → oi.dst = some d → G d (f d) w1) → o.wp P (frameOf b ds f) w1 (fun a' w2 => Q .normal a' w2) Q) :
    (Code.region id (l ++ [o]).toArray true).wp P Q b w := by
  refine wp_region_any hm ?_
  have hsize : (l ++ [o]).toArray.size = l.length + 1 := by simp
  have hlo : (l ++ [o])[l.length]? = some o := by simp
  have hgetl : ∀ i oi, i < l.length → (l ++ [o])[i]? = some oi → l[i]? = some oi := fun i oi hi h => by rwa [List.getElem?_append_left hi] at h
  -- the last is ready: all the others are listed
  have allBut : ∀ n listed a w1, LaidL (l ++ [o]).toArray l.length G I S b ds w.drew n listed a w1 → (∀ e ∈ o.after.toList, Region.binds .any e = true → listed.getD e.on false = true) → ∀ k, k < l.length → listed.getD k false = true := by
    intro n listed a w1 hl ho
    have : ∀ m k, k < l.length → l.length - k ≤ m → listed.getD k false = true := by
      intro m
      induction m with
      | zero => intro k hk hm; omega
      | succ m ih =>
        intro k hk hm
        obtain ⟨j, oj, e, hj, he, hb, hek⟩ := depB_get hdep (i := k) (by simp; omega)
        have hlt := (shapeOk.get hsh hj).2.1 e he hb
        have hjl : j < (l ++ [o]).length := (List.getElem?_eq_some_iff.1 hj).1
        simp at hjl
        rcases Nat.lt_or_ge j l.length with hjn | hjn
        · have := hl.closed j oj (ih j hjn (by omega)) (by simpa using hj) e he hb
          rwa [hek] at this
        · have hje : j = l.length := by omega
          subst hje
          rw [hlo] at hj
          injection hj with hj
          subst hj
          have := ho e he hb
          rwa [hek] at this
    exact fun k hk => this _ k hk (Nat.le_refl _)
  have notDone : ∀ n listed a w1, LaidL (l ++ [o]).toArray l.length G I S b ds w.drew n listed a w1 → Region.ready .any (l ++ [o]).toArray listed ≠ [] := by
    intro n listed a w1 hl hr
    have all : ∀ m i, i < m → i < l.length + 1 → listed.getD i false = true := by
      intro m
      induction m with
      | zero => intro i hi; omega
      | succ m ih =>
        intro i hi hil
        by_cases hc : listed.getD i false = true
        · exact hc
        · exfalso
          have hils : i < listed.size := by rw [hl.size, hsize]; exact hil
          have hmem : i ∈ Region.ready .any (l ++ [o]).toArray listed := by
            rw [Region.ready, List.mem_filter]
            refine ⟨by simp; omega, ?_⟩
            have h1 : listed.getD i true = false := by
              simp only [Array.getD, hils, dif_pos] at hc ⊢
              simpa using hc
            rw [h1]
            obtain ⟨oi, ho'⟩ : ∃ oi, (l ++ [o])[i]? = some oi := ⟨_, List.getElem?_eq_getElem (by simp; omega)⟩
            have ho2 : (l ++ [o]).toArray[i]? = some oi := by rw [List.getElem?_toArray]; exact ho'
            rw [ho2]
            simp only [Bool.not_false, Bool.true_and, Option.map_some, Option.getD_some, Array.all_eq_true']
            intro e he
            cases hb : Region.binds .any e
            · simp
            · have hlt := (shapeOk.get hsh ho').2.1 e (by simpa using he) hb
              rw [ih e.on (by omega) (by omega)]
              simp
          rw [hr] at hmem
          cases hmem
    have := all (l.length + 1) l.length (by omega) (by omega)
    rw [hl.open_] at this
    cases this
  have key : ∀ fuel n listed a w1, (listed.toList.filter (fun x => !x)).length ≤ fuel → LaidL (l ++ [o]).toArray l.length G I S b ds w.drew n listed a w1 → wpAny P .any (l ++ [o]).toArray Q fuel listed a w1 := by
    intro fuel
    induction fuel with
    | zero =>
      intro nn listed a w1 hn hl
      exfalso
      have hlt : l.length < listed.size := by rw [hl.size, hsize]; omega
      have hm' : listed[l.length] ∈ listed.toList.filter (fun x => !x) := by
        rw [List.mem_filter]
        refine ⟨by simp, ?_⟩
        have := hl.open_
        simp only [Array.getD, hlt, dif_pos] at this
        simpa using this
      have : 0 < (listed.toList.filter (fun x => !x)).length := List.length_pos_of_mem hm'
      omega
    | succ fuel ih =>
      intro nn listed a w1 hn hl
      refine ⟨fun hr => absurd hr (notDone nn listed a w1 hl), fun i hi => ?_⟩
      obtain ⟨hil, hun, haf⟩ := ready_get hi hl.size
      have hlt : i < listed.size := by rw [hl.size]; exact hil
      obtain ⟨oi, ho'⟩ : ∃ oi, (l ++ [o])[i]? = some oi := ⟨_, List.getElem?_eq_getElem (by rw [hsize] at hil; simp; omega)⟩
      have ho2 : (l ++ [o]).toArray[i]? = some oi := by rw [List.getElem?_toArray]; exact ho'
      obtain ⟨hgu, _, hds⟩ := shapeOk.get hsh ho'
      have hfi : listed[i] = false := by simpa [Array.getD, hlt] using hun
      have hcc := filter_set_eq hlt hfi
      have haf' := haf _ ho2
      unfold wpOp
      rw [ho2]
      simp only [Region.wanted, hgu, if_true]
      left
      have hct := hl.count
      obtain ⟨f, rfl, hI, hS, hG⟩ := hl.frame
      rcases Nat.lt_or_ge i l.length with hin | hin
      · have hol : l[i]? = some oi := hgetl i _ hin ho'
        have hst := hstep.get hol nn f w1 (by omega) hI hS (afterOk_of (fun e he hb oj d hoj hd => hG e.on oj d (haf' e he hb) hoj hd))
        refine Oper.wp_mono ?_ hst
        rintro a' w2 ⟨v, rfl, hI2, hS2, hG2⟩
        have closed2 : ∀ j oj, (listed.setIfInBounds i true).getD j false = true → (l ++ [o]).toArray[j]? = some oj → ∀ e ∈ oj.after.toList, Region.binds .any e = true → (listed.setIfInBounds i true).getD e.on false = true := by
          intro j oj hj hoj e he hb
          by_cases hei : e.on = i
          · rw [hei]; exact getD_set_self hlt
          · rw [getD_set_ne _ (Ne.symm hei)]
            by_cases e' : j = i
            · subst e'
              rw [ho2] at hoj
              injection hoj with hoj
              subst hoj
              exact haf' e he hb
            · rw [getD_set_ne _ (Ne.symm e')] at hj
              exact hl.closed j oj hj hoj e he hb
        have open2 : (listed.setIfInBounds i true).getD l.length false = false := by
          rw [getD_set_ne _ (by omega)]
          exact hl.open_
        refine ih (nn + 1) _ _ _ (by omega) ⟨by simp [hl.size], by omega, ?_, closed2, open2⟩
        cases hd : oi.dst with
        | none =>
          refine ⟨f, rfl, hI2, S_trans _ _ _ hS hS2, ?_⟩
          intro j oj d hj hoj hdj
          by_cases e : j = i
          · subst e; rw [ho2] at hoj; cases hoj; rw [hd] at hdj; cases hdj
          · refine stable _ _ _ _ hS2 (hG j oj d ?_ hoj hdj)
            rwa [getD_set_ne _ (Ne.symm e)] at hj
        | some d0 =>
          refine ⟨upd f d0 v, frameOf_put b ds f d0 v (hds d0 hd), hI2, S_trans _ _ _ hS hS2, ?_⟩
          intro j oj d hj hoj hdj
          by_cases e : d = d0
          · subst e; simp only [upd, if_true]; exact hG2 d hd
          · simp only [upd, if_neg e]
            refine stable _ _ _ _ hS2 (hG j oj d ?_ hoj hdj)
            have hne : j ≠ i := by
              intro h; subst h; rw [ho2] at hoj; cases hoj; rw [hd] at hdj; cases hdj; exact e rfl
            rwa [getD_set_ne _ (Ne.symm hne)] at hj
      · have hie : i = l.length := by rw [hsize] at hil; omega
        have hoo : oi = o := by
          have := ho'
          rw [hie, hlo] at this
          injection this with this
          exact this.symm
        have hall := allBut nn listed _ w1 hl (by rw [hoo] at haf'; exact haf')
        rw [hoo]
        have hn1 : nn ≤ l.length := by
          have : 0 < (listed.toList.filter (fun x => !x)).length := by omega
          rw [hsize] at hct
          omega
        refine Oper.wp_mono ?_ (hend nn f w1 hn1 hI hS (fun j oj d hoj hd => hG j oj d (hall j (List.getElem?_eq_some_iff.1 hoj).1) (by
          have : j < l.length := (List.getElem?_eq_some_iff.1 hoj).1
          simp [List.getElem?_append_left this, hoj]) hd))
        intro a' w2 hq
        have hr : Region.ready .any (l ++ [o]).toArray (listed.setIfInBounds i true) = [] := by
          rw [List.eq_nil_iff_forall_not_mem]
          intro j hj
          obtain ⟨h1, h2, _⟩ := ready_get hj (by simp [hl.size])
          by_cases e : j = i
          · subst e
            rw [getD_set_self hlt] at h2
            cases h2
          · rw [getD_set_ne _ (Ne.symm e), hall j (by rw [hsize] at h1; omega)] at h2
            cases h2
        cases fuel with
        | zero => exact ⟨hr, hq⟩
        | succ fuel => exact ⟨fun _ => hq, fun j hj => by rw [hr] at hj; cases hj⟩
  refine key _ 0 _ _ _ ?_ ⟨by simp, by simp, ⟨_, (frameOf_self b ds).symm, I0, S_refl _, ?_⟩, ?_, ?_⟩
  · simp
  · intro i o d hi ho hd
    simp [Array.getD] at hi
  · intro i o hi ho
    simp [Array.getD] at hi
  · simp [Array.getD]
/-- .. as it is used: the operations as they lie. -/
theorem wp_region_endl {ops : List Oper} {Q : Exit → Act → World → Prop} {id : Nat} {b : Act} {w : World} (hne : ops ≠ []) (hm : P.follows .mixedOrders = true) (ds : List Nat)
    (G : Nat → Value → World → Prop) (I : Nat → World → Prop) (S : World → World → Prop) (S_refl : ∀ w, S w w) (S_trans : ∀ x y z, S x y → S y z → S x z)
    (stable : ∀ d v w w', S w w' → G d v w → G d v w') (hsh : shapeOk ds 0 ops = true) (hdep : depB ops = true) (I0 : I 0 w.drew)
    (hstep : StepAll P ops.toArray Q G I S b ds w.drew ops.dropLast)
    (hend : ∀ n f w1, n ≤ ops.length → I n w1 → S w.drew w1 → (∀ (i : Nat) (oi : Oper) (d : Nat), i < ops.length - 1 → ops[i]? = some oi → oi.dst = some d → G d (f d) w1) → (ops.getLast hne).wp P (frameOf b ds f) w1 (fun a' w2 => Q .normal a' w2) Q) :
    (Code.region id ops.toArray true).wp P Q b w := by
  obtain ⟨l, o, rfl⟩ : ∃ l o, ops = l ++ [o] := ⟨ops.dropLast, ops.getLast hne, (List.dropLast_concat_getLast hne).symm⟩
  rw [List.dropLast_concat] at hstep
  refine wp_region_last hm ds G I S S_refl S_trans stable hsh hdep I0 hstep ?_
  intro n f w1 hn hI hS hG
  have := hend n f w1 (by simp; omega) hI hS (fun i oi d hi hoi hd => hG i oi d (by
    have hi' : i < l.length := by simpa using hi
    rwa [List.getElem?_append_left hi'] at hoi) hd)
  simpa using this
end

end My
end Go.Proofs.YtjmlekhgnbbjoaaGreatDoor
