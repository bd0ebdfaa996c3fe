/- A law on regions that draw their order, whose last operations come last, one behind the other, in every order. No program in sight. -/
import Derived.Test.YtjmlekhgnbbjoaaGreatDoorRegL
namespace Go.Proofs.YtjmlekhgnbbjoaaGreatDoor
open Go.RowKit
set_option linter.unusedVariables false
namespace My

section
variable {P : Program}

/-- The operations at the end, one behind the other. -/
def TailOk (P : Program) (Q : Exit → Act → World → Prop) : List Oper → Act → World → Prop
  | [], a, w => Q .normal a w
  | o :: r, a, w => o.wp P a w (fun a' w' => TailOk P Q r a' w') Q

/-- Each operation ahead of the end has one that waits for it, not behind the end's first; at the end each waits for the one ahead. -/
def tailB (m : Nat) (ops : List Oper) : Bool :=
  ((List.range m).all fun i => (ops.take (m + 1)).any fun oj => oj.after.toList.any fun e => Region.binds .any e && (e.on == i)) &&
  ((List.range (ops.length - (m + 1))).all fun t => match ops[m + 1 + t]? with
    | some oj => oj.after.toList.any fun e => Region.binds .any e && (e.on == m + t)
    | none => false)
theorem tailB_get {m : Nat} {ops : List Oper} (h : tailB m ops = true) {i : Nat} (hi : i < m) : ∃ (j : Nat) (oj : Oper) (e : Edge), ops[j]? = some oj ∧ j ≤ m ∧ e ∈ oj.after.toList ∧ Region.binds .any e = true ∧ e.on = i := by
  unfold tailB at h
  rw [Bool.and_eq_true] at h
  have := (List.all_eq_true.1 h.1) i (List.mem_range.2 hi)
  rw [List.any_eq_true] at this
  obtain ⟨oj, hj, h2⟩ := this
  rw [List.any_eq_true] at h2
  obtain ⟨e, he, h3⟩ := h2
  rw [Bool.and_eq_true] at h3
  obtain ⟨j, hj⟩ := List.getElem?_of_mem hj
  have hlt := (List.getElem?_eq_some_iff.1 hj).1
  simp only [List.length_take] at hlt
  rw [List.getElem?_take_of_lt (by omega)] at hj
  exact ⟨j, oj, e, hj, by omega, he, h3.1, by simpa using h3.2⟩
theorem tailB_next {m : Nat} {ops : List Oper} (h : tailB m ops = true) {t : Nat} (ht : m + 1 + t < ops.length) : ∃ (oj : Oper) (e : Edge), ops[m + 1 + t]? = some oj ∧ e ∈ oj.after.toList ∧ Region.binds .any e = true ∧ e.on = m + t := by
  unfold tailB at h
  rw [Bool.and_eq_true] at h
  have := (List.all_eq_true.1 h.2) t (List.mem_range.2 (by omega))
  rw [List.getElem?_eq_getElem ht] at this
  simp only at this
  rw [List.any_eq_true] at this
  obtain ⟨e, he, h3⟩ := this
  rw [Bool.and_eq_true] at h3
  exact ⟨_, e, List.getElem?_eq_getElem ht, he, h3.1, by simpa using h3.2⟩

/-- While one isn't listed, one is ready. -/
theorem ready_ne {ops : List Oper} {ds : List Nat} (hsh : shapeOk ds 0 ops = true) {listed : Array Bool} (hs : listed.size = ops.length) {k : Nat} (hk : k < ops.length) (hun : listed.getD k false = false) :
    Region.ready .any ops.toArray listed ≠ [] := by
  intro hr
  have all : ∀ m i, i < m → i < ops.length → listed.getD i false = true := by
    intro m
    induction m with
    | zero => intro i hi; omega
    | succ m ih =>
      intro i hi hil
      by_cases hc : listed.getD i false = true
      · exact hc
      · exfalso
        have hils : i < listed.size := by omega
        have hmem : i ∈ Region.ready .any ops.toArray listed := by
          rw [Region.ready, List.mem_filter]
          refine ⟨by simp; omega, ?_⟩
          have h1 : listed.getD i true = false := by
            simp only [Array.getD, hils, dif_pos] at hc ⊢
            simpa using hc
          rw [h1]
          obtain ⟨oi, ho'⟩ : ∃ oi, ops[i]? = some oi := ⟨_, List.getElem?_eq_getElem hil⟩
          have ho2 : ops.toArray[i]? = some oi := by rw [List.getElem?_toArray]; exact ho'
          rw [ho2]
          simp only [Bool.not_false, Bool.true_and, Option.map_some, Option.getD_some, Array.all_eq_true']
          intro e he
          cases hb : Region.binds .any e
          · simp
          · have hlt := (shapeOk.get hsh ho').2.1 e (by simpa using he) hb
            rw [ih e.on (by omega) (by omega)]
            simp
        rw [hr] at hmem
        cases hmem
  have := all (k + 1) k (by omega) hk
  rw [hun] at this
  cases this

/-- The end, once all ahead of it are listed. -/
theorem wp_tail {ops : List Oper} {m : Nat} {ds : List Nat} {Q : Exit → Act → World → Prop} (hsh : shapeOk ds 0 ops = true) (hdep : tailB m ops = true) :
    ∀ (r : List Oper) (t : Nat) (fuel : Nat) (listed : Array Bool) (a : Act) (w : World), ops.drop (m + t) = r → 1 ≤ t → listed.size = ops.length → (∀ i, i < ops.length → listed.getD i false = decide (i < m + t)) → r.length ≤ fuel →
      TailOk P Q r a w → wpAny P .any ops.toArray Q fuel listed a w := by
  intro r
  induction r with
  | nil =>
    intro t fuel listed a w hr ht hs hl hf h
    have hlen : ops.length ≤ m + t := by
      have := congrArg List.length hr
      simp at this
      omega
    have hready : Region.ready .any ops.toArray listed = [] := by
      rw [List.eq_nil_iff_forall_not_mem]
      intro j hj
      obtain ⟨h1, h2, _⟩ := ready_get hj (by simp [hs])
      have hj' : j < ops.length := by simpa using h1
      rw [hl j hj'] at h2
      simp at h2
      omega
    cases fuel with
    | zero => exact ⟨hready, h⟩
    | succ fuel => exact ⟨fun _ => h, fun j hj => by rw [hready] at hj; cases hj⟩
  | cons o r ih =>
    intro t fuel listed a w hr ht hs hl hf h
    have hlt : m + t < ops.length := by
      have := congrArg List.length hr
      simp at this
      omega
    have hop : ops[m + t]? = some o := by
      have := congrArg (·[0]?) hr
      simpa [List.getElem?_drop] using this
    have hnext : ops.drop (m + (t + 1)) = r := by
      have := congrArg List.tail hr
      simpa [List.tail_drop, Nat.add_assoc] using this
    cases fuel with
    | zero => simp at hf
    | succ fuel =>
      refine ⟨fun hr0 => absurd hr0 (ready_ne hsh hs hlt (by rw [hl _ hlt]; simp)), fun i hi => ?_⟩
      obtain ⟨hil, hun, haf⟩ := ready_get hi (by simp [hs])
      have hil' : i < ops.length := by simpa using hil
      have hge : m + t ≤ i := by
        rw [hl i hil'] at hun
        simpa using hun
      have hie : i = m + t := by
        rcases Nat.lt_or_ge (m + t) i with hgt | hle
        · exfalso
          obtain ⟨s, rfl⟩ : ∃ s, i = m + 1 + s := ⟨i - (m + 1), by omega⟩
          obtain ⟨oj, e, hoj, he, hb, hon⟩ := tailB_next hdep (t := s) hil'
          have := haf oj (by rw [List.getElem?_toArray]; exact hoj) e he hb
          rw [hon, hl _ (by omega)] at this
          simp at this
          omega
        · omega
      subst hie
      have ho2 : ops.toArray[m + t]? = some o := by rw [List.getElem?_toArray]; exact hop
      obtain ⟨hgu, _, _⟩ := shapeOk.get hsh hop
      unfold wpOp
      rw [ho2]
      simp only [Region.wanted, hgu, if_true]
      left
      refine Oper.wp_mono ?_ (show o.wp P a w (fun a' w' => TailOk P Q r a' w') Q from h)
      intro a' w2 h2
      refine ih (t + 1) fuel _ a' w2 hnext (by omega) (by simp [hs]) ?_ (by simp at hf; omega) h2
      intro j hj
      by_cases e : j = m + t
      · subst e
        rw [getD_set_self (by omega)]
        have e2 : m + t < m + (t + 1) := by omega
        simp [e2]
      · rw [getD_set_ne _ (Ne.symm e), hl j hj]
        have e2 : (j < m + (t + 1)) ↔ (j < m + t) := by omega
        simp [e2]

theorem wp_region_tail {ops : List Oper} {Q : Exit → Act → World → Prop} {id : Nat} {b : Act} {w : World} (m : Nat) (hm0 : m < ops.length) (hm : P.follows .mixedOrders = true) (ds : List Nat)
    (G : Nat → Value → World → Prop) (I : Nat → World → Prop) (S : World → World → Prop) (S_refl : ∀ w, S w w) (S_trans : ∀ x y z, S x y → S y z → S x z)
    (stable : ∀ d v w w', S w w' → G d v w → G d v w') (ds' : List Nat) (hsh : shapeOk ds' 0 ops = true) (hsh2 : shapeOk ds 0 (ops.take m) = true) (hdep : tailB m ops = true) (I0 : I 0 w.drew)
    (hstep : StepAll P ops.toArray Q G I S b ds w.drew (ops.take m))
    (hend : ∀ n f w1, n ≤ m → I n w1 → S w.drew w1 → (∀ (i : Nat) (oi : Oper) (d : Nat), i < m → ops[i]? = some oi → oi.dst = some d → G d (f d) w1) → TailOk P Q (ops.drop m) (frameOf b ds f) w1) :
    (Code.region id ops.toArray true).wp P Q b w := by
  refine wp_region_any hm ?_
  have hsize : ops.toArray.size = ops.length := by simp
  obtain ⟨o, hlo⟩ : ∃ o, ops[m]? = some o := ⟨_, List.getElem?_eq_getElem hm0⟩
  have hdrop : ops.drop m = o :: ops.drop (m + 1) := by
    rw [List.drop_eq_getElem_cons hm0]
    congr 1
    exact (List.getElem?_eq_some_iff.1 hlo).2
  have allBut : ∀ n listed a w1, LaidL ops.toArray m G I S b ds w.drew n listed a w1 → (∀ e ∈ o.after.toList, Region.binds .any e = true → listed.getD e.on false = true) → ∀ k, k < m → listed.getD k false = true := by
    intro n listed a w1 hl ho
    have : ∀ q k, k < m → m - k ≤ q → listed.getD k false = true := by
      intro q
      induction q with
      | zero => intro k hk hq; omega
      | succ q ih =>
        intro k hk hq
        obtain ⟨j, oj, e, hj, hjm, he, hb, hek⟩ := tailB_get hdep hk
        have hlt := (shapeOk.get hsh hj).2.1 e he hb
        rcases Nat.lt_or_ge j m with hjn | hjn
        · have := hl.closed j oj (ih j hjn (by omega)) (by rw [List.getElem?_toArray]; exact hj) e he hb
          rwa [hek] at this
        · have hje : j = m := by omega
          subst hje
          rw [hlo] at hj
          injection hj with hj
          subst hj
          have := ho e he hb
          rwa [hek] at this
    exact fun k hk => this _ k hk (Nat.le_refl _)
  -- what is behind the end's first can't be listed before it
  have key : ∀ fuel n listed a w1, (listed.toList.filter (fun x => !x)).length ≤ fuel → LaidL ops.toArray m G I S b ds w.drew n listed a w1 → (∀ i, m ≤ i → listed.getD i false = false) → wpAny P .any ops.toArray Q fuel listed a w1 := by
    intro fuel
    induction fuel with
    | zero =>
      intro nn listed a w1 hn hl hbe
      exfalso
      have hlt : m < listed.size := by rw [hl.size, hsize]; omega
      have hm' : listed[m] ∈ listed.toList.filter (fun x => !x) := by
        rw [List.mem_filter]
        refine ⟨by simp, ?_⟩
        have := hl.open_
        simp only [Array.getD, hlt, dif_pos] at this
        simpa using this
      have : 0 < (listed.toList.filter (fun x => !x)).length := List.length_pos_of_mem hm'
      omega
    | succ fuel ih =>
      intro nn listed a w1 hn hl hbe
      refine ⟨fun hr => absurd hr (ready_ne hsh (by rw [hl.size, hsize]) hm0 hl.open_), fun i hi => ?_⟩
      obtain ⟨hil, hun, haf⟩ := ready_get hi hl.size
      have hil' : i < ops.length := by rw [hsize] at hil; exact hil
      have hlt : i < listed.size := by rw [hl.size]; exact hil
      obtain ⟨oi, ho'⟩ : ∃ oi, ops[i]? = some oi := ⟨_, List.getElem?_eq_getElem hil'⟩
      have ho2 : ops.toArray[i]? = some oi := by rw [List.getElem?_toArray]; exact ho'
      obtain ⟨hgu, _, _⟩ := shapeOk.get hsh ho'
      have hfi : listed[i] = false := by simpa [Array.getD, hlt] using hun
      have hcc := filter_set_eq hlt hfi
      have haf' := haf _ ho2
      unfold wpOp
      rw [ho2]
      simp only [Region.wanted, hgu, if_true]
      left
      have hct := hl.count
      obtain ⟨f, rfl, hI, hS, hG⟩ := hl.frame
      rcases Nat.lt_or_ge i m with hin | hin
      · have hol : (ops.take m)[i]? = some oi := by rw [List.getElem?_take_of_lt hin]; exact ho'
        obtain ⟨_, _, hds⟩ := shapeOk.get hsh2 hol
        have hst := hstep.get hol nn f w1 (by omega) hI hS (afterOk_of (fun e he hb oj d hoj hd => hG e.on oj d (haf' e he hb) hoj hd))
        refine Oper.wp_mono ?_ hst
        rintro a' w2 ⟨v, rfl, hI2, hS2, hG2⟩
        have closed2 : ∀ j oj, (listed.setIfInBounds i true).getD j false = true → ops.toArray[j]? = some oj → ∀ e ∈ oj.after.toList, Region.binds .any e = true → (listed.setIfInBounds i true).getD e.on false = true := by
          intro j oj hj hoj e he hb
          by_cases hei : e.on = i
          · rw [hei]; exact getD_set_self hlt
          · rw [getD_set_ne _ (Ne.symm hei)]
            by_cases e' : j = i
            · subst e'
              rw [ho2] at hoj
              injection hoj with hoj
              subst hoj
              exact haf' e he hb
            · rw [getD_set_ne _ (Ne.symm e')] at hj
              exact hl.closed j oj hj hoj e he hb
        have be2 : ∀ j, m ≤ j → (listed.setIfInBounds i true).getD j false = false := by
          intro j hj
          rw [getD_set_ne _ (by omega)]
          exact hbe j hj
        refine ih (nn + 1) _ _ _ (by omega) ⟨by simp [hl.size], by omega, ?_, closed2, be2 m (Nat.le_refl _)⟩ be2
        cases hd : oi.dst with
        | none =>
          refine ⟨f, rfl, hI2, S_trans _ _ _ hS hS2, ?_⟩
          intro j oj d hj hoj hdj
          by_cases e : j = i
          · subst e; rw [ho2] at hoj; cases hoj; rw [hd] at hdj; cases hdj
          · refine stable _ _ _ _ hS2 (hG j oj d ?_ hoj hdj)
            rwa [getD_set_ne _ (Ne.symm e)] at hj
        | some d0 =>
          refine ⟨upd f d0 v, frameOf_put b ds f d0 v (hds d0 hd), hI2, S_trans _ _ _ hS hS2, ?_⟩
          intro j oj d hj hoj hdj
          by_cases e : d = d0
          · subst e; simp only [upd, if_true]; exact hG2 d hd
          · simp only [upd, if_neg e]
            refine stable _ _ _ _ hS2 (hG j oj d ?_ hoj hdj)
            have hne : j ≠ i := by
              intro h; subst h; rw [ho2] at hoj; cases hoj; rw [hd] at hdj; cases hdj; exact e rfl
            rwa [getD_set_ne _ (Ne.symm hne)] at hj
      · have hie : i = m := by
          rcases Nat.lt_or_ge m i with hgt | hle
          · exfalso
            obtain ⟨s, rfl⟩ : ∃ s, i = m + 1 + s := ⟨i - (m + 1), by omega⟩
            obtain ⟨oj, e, hoj, he, hb, hon⟩ := tailB_next hdep (t := s) hil'
            have := haf oj (by rw [List.getElem?_toArray]; exact hoj) e he hb
            rw [hon, hbe _ (by omega)] at this
            cases this
          · omega
        subst hie
        rw [ho'] at hlo
        injection hlo with hlo
        subst hlo
        have hall := allBut nn listed _ w1 hl haf'
        have hnm : nn ≤ i := by
          have h1 : ops.length - i ≤ (listed.toList.filter (fun x => !x)).length := by
            have gen : ∀ (q : List Bool) (k : Nat), (∀ j, k ≤ j → j < q.length → q[j]? = some false) → q.length - k ≤ (q.filter (fun x => !x)).length := by
              intro q
              induction q with
              | nil => intro k _; simp
              | cons x r ihq =>
                intro k hk
                cases k with
                | zero =>
                  have h0 := hk 0 (Nat.le_refl _) (by simp)
                  simp at h0
                  subst h0
                  have := ihq 0 (fun j _ hj => by
                    have := hk (j + 1) (by omega) (by simpa using hj)
                    simpa using this)
                  simp only [List.length_cons, List.filter_cons, Bool.not_false, if_true]
                  omega
                | succ k =>
                  have := ihq k (fun j hkj hj => by
                    have := hk (j + 1) (by omega) (by simpa using hj)
                    simpa using this)
                  have h3 : (r.filter (fun x => !x)).length ≤ ((x :: r).filter (fun x => !x)).length := by
                    simp only [List.filter_cons]
                    split <;> simp
                  simp only [List.length_cons]
                  omega
            have := gen listed.toList i (fun j hj hjl => by
              have hb := hbe j hj
              have hjs : j < listed.size := by simpa using hjl
              simp only [Array.getD, hjs, dif_pos] at hb
              rw [List.getElem?_eq_getElem hjl]
              simpa using hb)
            have hls : listed.toList.length = ops.length := by simp [hl.size]
            omega
          rw [hsize] at hct
          omega
        have he := hend nn f w1 hnm hI hS (fun j oj d hj hoj hd => hG j oj d (hall j hj) (by rw [List.getElem?_toArray]; exact hoj) hd)
        rw [hdrop] at he
        refine Oper.wp_mono ?_ (show oi.wp P (frameOf b ds f) w1 (fun a' w' => TailOk P Q (ops.drop (i + 1)) a' w') Q from he)
        intro a' w2 h2
        refine wp_tail hsh hdep (ops.drop (i + 1)) 1 fuel _ a' w2 rfl (Nat.le_refl _) (by simp [hl.size]) ?_ ?_ h2
        · intro j hj
          by_cases e : j = i
          · subst e
            rw [getD_set_self hlt]
            simp
          · rw [getD_set_ne _ (Ne.symm e)]
            rcases Nat.lt_or_ge j i with hji | hji
            · rw [hall j hji]; simp; omega
            · rw [hbe j hji]; simp; omega
        · simp only [List.length_drop]
          have h1 : (listed.toList.filter (fun x => !x)).length ≤ fuel + 1 := hn
          rw [hsize] at hct
          omega
  refine key _ 0 _ _ _ ?_ ⟨by simp, by simp, ⟨_, (frameOf_self b ds).symm, I0, S_refl _, ?_⟩, ?_, ?_⟩ ?_
  · simp
  · intro i o d hi ho hd
    simp [Array.getD] at hi
  · intro i o hi ho
    simp [Array.getD] at hi
  · simp [Array.getD]
  · intro i hi
    simp [Array.getD]
end

end My
end Go.Proofs.YtjmlekhgnbbjoaaGreatDoor
