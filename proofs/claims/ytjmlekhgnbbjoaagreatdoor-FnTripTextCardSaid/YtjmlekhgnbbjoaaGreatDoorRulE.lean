/- The drawing function of rules. -/
import Derived.Test.YtjmlekhgnbbjoaaGreatDoorRulD
namespace Go.Proofs.YtjmlekhgnbbjoaaGreatDoor
open Go.RowKit Go.Deep
set_option linter.unusedVariables false
namespace My

/-- The names that rules are drawn from. -/
def NamesIn (w : World) (g n : Nat) : Prop := ∀ i, i < n → ∃ v, w.cell? ⟨g, i, none⟩ = some v ∧ StrIn 10 v
theorem NamesIn.only {w w' : World} {g n R : Nat} (h : NamesIn w g n) (ho : Only R w w') (hg : g < w.heap.size) (hR : g ≠ R) : NamesIn w' g n := by
  intro i hi
  obtain ⟨v, hv, hs⟩ := h i hi
  exact ⟨v, (World.cell?_of_block (w := w) (ho.block g hg (by simp; omega))).trans hv, hs⟩

/-- What l14Rule leaves. -/
def RulePost (S : Nat → Option BK) (d R K : Nat) (a : Option Addr) (len cap : Nat) (w : World) (e : Ending) (w' : World) : Prop :=
  ∃ (S' : Nat → Option BK) (op num : Int) (s : ByteArray) (kids marks : Value), e = .returned (.agg #[.int .i64 op, .int .i64 num, .string s, kids, marks]) ∧ RuleC S' d op num s kids marks ∧ More w.heap.size S S' ∧ DS w S' R K a len cap [] w'

set_option maxRecDepth 100000 in
set_option maxHeartbeats 4000000 in
theorem l14Rule_leaf {S : Nat → Option BK} {d R K : Nat} {a : Option Addr} {len cap : Nat} {w : World} {depth : Int} (gn nn cn : Nat) (hK : K ≤ 1000000) (h : DS w S R K a len cap [] w) (hn : NamesIn w gn nn) (hn1 : 1 ≤ nn) (hn2 : nn ≤ 10) (hn3 : nn ≤ cn) (hgR : gn ≠ R) (hg : gn < w.heap.size)
    (hd : 5 ≤ depth) :
    Calls Tryz.prog 78 #[.pointer (some ⟨R, 0, none⟩), .int .i64 depth, .slice (some ⟨gn, 0, none⟩) nn cn] w (RulePost S d R (K + 8) a len cap w) := by
  have HD := Lib.hid (h.box #[.int .i64 0, .int .i64 0, .string ⟨#[]⟩, .slice none 0 0, .slice none 0 0] 89)
  have HN := Lib.hid hn
  clear h hn
  go_enter Tryz.func78, Tryz.ntmps78
  go_wp2_with fail
  ((with_reducible refine (pick_ds (by repeat (first | exact HD.out | apply DS.alloc | apply DS.drewN | apply DS.drew)) (by omega) (by omega) (by omega)).mono ?_); rintro e wy ⟨y, rfl, y0, y1, hds, hon⟩; have Hy := Lib.hid hon; clear HD; have HD := Lib.hid hds; clear hds hon)
  by_cases hy : y = 0
  · go_wp2_with fail
    refine (of_ds (q := 10) (by repeat (first | exact HD.out | apply DS.alloc | apply DS.drewN | apply DS.drew)) (by omega) gn nn cn hn1 (by omega) hn3 hgR (Nat.lt_of_lt_of_le hg HD.out.on.size) (HN.out.only HD.out.on hg hgR)).mono ?_
    rintro e wz ⟨s, rfl, hs, hds, hon⟩
    obtain ⟨-, hb, hSB⟩ := hds.loc _ (List.mem_singleton.2 rfl)
    have HE := Lib.hid hds
    have HSB := Lib.hid hSB
    have c0 := cell_of hb 0
    have c1 := cell_of hb 1
    have c2 := cell_of hb 2
    have c3 := cell_of hb 3
    have c4 := cell_of hb 4
    simp at c0 c1 c2 c3 c4
    have f0 := frozen_of hb 0
    have f1 := frozen_of hb 1
    have f2 := frozen_of hb 2
    have f3 := frozen_of hb 3
    have f4 := frozen_of hb 4
    clear hb hSB hds hon
    go_wp2_with fail
    refine bodyPost_ret (v := .agg #[.int .i64 2, .int .i64 0, .string s, .slice none 0 0, .slice none 0 0]) (by simp [results, Tryz.results78, go_sem, c0, c1, c2, c3, c4]) rfl ⟨S, 2, 0, s, _, _, rfl, Or.inr (Or.inl ⟨rfl, rfl, hs, rfl, rfl⟩), More.refl _ _, ?_⟩
    have hnil : ∀ p, p ∈ ([] : List (Nat × Obj)) → p ∈ ([] : List (Nat × Obj)) ∧ p.1 ≠ w.heap.size := fun p hp => by cases hp
    exact (((((((HE.out.less (L' := []) (fun p hp => by cases hp)).set 0 _ (Nat.le_refl _) HSB.out hnil).set 1 _ (Nat.le_refl _) HSB.out hnil).set 2 _ (Nat.le_refl _) HSB.out hnil).set 3 _ (Nat.le_refl _) HSB.out hnil).set 4 _ (Nat.le_refl _) HSB.out hnil)).mono (by omega)
  · go_wp2_with fail
    ((with_reducible refine (pick_ds (by repeat (first | exact HD.out | apply DS.alloc | apply DS.drewN | apply DS.drew)) (by omega) (by omega) (by omega)).mono ?_); rintro e wp1 ⟨p1, rfl, p10, p11, hds, hon⟩; have Hp1 := Lib.hid hon; clear HD; have HD := Lib.hid hds; clear hds hon)
    go_wp2_with fail
    ((with_reducible refine (pick_ds (by repeat (first | exact HD.out | apply DS.alloc | apply DS.drewN | apply DS.drew)) (by omega) (by omega) (by omega)).mono ?_); rintro e wp2 ⟨p2, rfl, p20, p21, hds, hon⟩; have Hp2 := Lib.hid hon; clear HD; have HD := Lib.hid hds; clear hds hon)
    go_wp2_with fail
    ((with_reducible refine (pick_ds (by repeat (first | exact HD.out | apply DS.alloc | apply DS.drewN | apply DS.drew)) (by omega) (by omega) (by omega)).mono ?_); rintro e wp3 ⟨p3, rfl, p30, p31, hds, hon⟩; have Hp3 := Lib.hid hon; clear HD; have HD := Lib.hid hds; clear hds hon)
    go_wp2_with fail
    have HL := Lib.hid HD.out.here.lt
    ((with_reducible refine (pick_ds (by repeat (first | exact HD.out | apply DS.alloc | apply DS.drewN | apply DS.drew)) (by omega) (by omega) (by omega)).mono ?_); rintro e wp4 ⟨p4, rfl, p40, p41, hds, hon⟩; have Hp4 := Lib.hid hon; clear HD; have HD := Lib.hid hds; clear hds hon)
    obtain ⟨v, hv, q, rfl, q0, q1⟩ := pick_cell (IntIn (-1000000000000) 1000000000000) Hp4.out HL.out (by
      intro v hv
      simp at hv
      rcases hv with rfl | rfl | rfl | rfl | rfl
      all_goals exact ⟨_, rfl, by omega, by omega⟩) p40 p41
    obtain ⟨-, hb, hSB⟩ := HD.out.loc _ (List.mem_singleton.2 rfl)
    have HSB := Lib.hid hSB
    have c0 := cell_of hb 0
    have c1 := cell_of hb 1
    have c2 := cell_of hb 2
    have c3 := cell_of hb 3
    have c4 := cell_of hb 4
    simp at c0 c1 c2 c3 c4
    have f0 := frozen_of hb 0
    have f1 := frozen_of hb 1
    have f2 := frozen_of hb 2
    have f3 := frozen_of hb 3
    have f4 := frozen_of hb 4
    clear hb hSB
    go_wp2_with fail
    refine bodyPost_ret (v := .agg #[.int .i64 1, .int .i64 q, .string ⟨#[]⟩, .slice none 0 0, .slice none 0 0]) (by simp [results, Tryz.results78, go_sem, c0, c1, c2, c3, c4]) rfl ⟨S, 1, q, ⟨#[]⟩, _, _, rfl, Or.inl ⟨rfl, ⟨q0, q1⟩, rfl, rfl, rfl⟩, More.refl _ _, ?_⟩
    have hnil : ∀ p, p ∈ ([] : List (Nat × Obj)) → p ∈ ([] : List (Nat × Obj)) ∧ p.1 ≠ w.heap.size := fun p hp => by cases hp
    exact (((((((HD.out.less (L' := []) (fun p hp => by cases hp)).set 0 _ (Nat.le_refl _) HSB.out hnil).set 1 _ (Nat.le_refl _) HSB.out hnil).set 2 _ (Nat.le_refl _) HSB.out hnil).set 3 _ (Nat.le_refl _) HSB.out hnil).set 4 _ (Nat.le_refl _) HSB.out hnil)).mono (by omega)

def nK : Nat → Nat
  | 0 => 30
  | k + 1 => nK k * 5
theorem nK_ge : ∀ k, 30 ≤ nK k
  | 0 => Nat.le_refl _
  | k + 1 => by
    have := nK_ge k
    show 30 ≤ nK k * 5
    omega
theorem RulePost.mono {S : Nat → Option BK} {d d' R K K' : Nat} {a : Option Addr} {len cap : Nat} {w : World} {e : Ending} {w' : World} (h : RulePost S d R K a len cap w e w') (hd : d ≤ d') (hK : K ≤ K') : RulePost S d' R K' a len cap w e w' := by
  obtain ⟨S', op, num, s, kids, marks, he, hc, hm, hds⟩ := h
  exact ⟨S', op, num, s, kids, marks, he, hc.mono hd, hm, hds.mono hK⟩
/-- The cells of m rules. -/
def KidsL (S : Nat → Option BK) (h m : Nat) (xs : List Value) : Prop := ∀ i, i < m → ∃ op num s kids marks, RuleC S h op num s kids marks ∧ xs[i * 5]? = some (.int .i64 op) ∧ xs[i * 5 + 1]? = some (.int .i64 num) ∧ xs[i * 5 + 2]? = some (.string s) ∧ xs[i * 5 + 3]? = some kids ∧ xs[i * 5 + 4]? = some marks
theorem KidsL.push {S : Nat → Option BK} {h m : Nat} {xs : List Value} (hk : KidsL S h m xs) (hl : xs.length = m * 5) {op num : Int} {s : ByteArray} {kids marks : Value} (hc : RuleC S h op num s kids marks) :
    KidsL S h (m + 1) (xs ++ [.int .i64 op, .int .i64 num, .string s, kids, marks]) := by
  intro i hi
  by_cases e : i = m
  · subst e
    refine ⟨op, num, s, kids, marks, hc, ?_, ?_, ?_, ?_, ?_⟩
    all_goals
      rw [List.getElem?_append_right (by omega)]
    · rw [show i * 5 - xs.length = 0 from by omega]; rfl
    · rw [show i * 5 + 1 - xs.length = 1 from by omega]; rfl
    · rw [show i * 5 + 2 - xs.length = 2 from by omega]; rfl
    · rw [show i * 5 + 3 - xs.length = 3 from by omega]; rfl
    · rw [show i * 5 + 4 - xs.length = 4 from by omega]; rfl
  · obtain ⟨op, num, s, kids, marks, hc, e0, e1, e2, e3, e4⟩ := hk i (by omega)
    refine ⟨op, num, s, kids, marks, hc, ?_, ?_, ?_, ?_, ?_⟩
    all_goals
      rw [List.getElem?_append_left (by omega)]
      assumption
theorem KidsL.more {S S' : Nat → Option BK} {n h m : Nat} {xs : List Value} (hk : KidsL S h m xs) (hm : More n S S') : KidsL S' h m xs := by
  intro i hi
  obtain ⟨op, num, s, kids, marks, hc, e⟩ := hk i hi
  exact ⟨op, num, s, kids, marks, hc.more hm, e⟩
theorem RuleC.one {S : Nat → Option BK} {d : Nat} {op num : Int} {s : ByteArray} {kids marks : Value} (h : RuleC S d op num s kids marks) : kids.oneCell' = true ∧ marks.oneCell' = true := by
  rcases h with ⟨_, _, _, rfl, rfl⟩ | ⟨_, _, _, rfl, rfl⟩ | ⟨_, _, _, _, ⟨g, c, q, rfl, _⟩, hk⟩
  · exact ⟨rfl, rfl⟩
  · exact ⟨rfl, rfl⟩
  · rcases hk with ⟨_, rfl⟩ | ⟨_, _, _, _, rfl, _⟩
    · exact ⟨rfl, rfl⟩
    · exact ⟨rfl, rfl⟩
theorem one5 {op num : Int} {s : ByteArray} {kids marks : Value} (h : kids.oneCell' = true ∧ marks.oneCell' = true) : ∀ u, u ∈ [Value.int .i64 op, .int .i64 num, .string s, kids, marks] → u.oneCell' = true := by
  intro u hu
  simp only [List.mem_cons, List.not_mem_nil, or_false] at hu
  rcases hu with rfl | rfl | rfl | rfl | rfl
  · rfl
  · rfl
  · rfl
  · exact h.1
  · exact h.2
theorem news_5 (w : World) (a b c d e : Value) (t : TypeId) : ∀ j x, [a, b, c, d, e][j]? = some x → (w.alloc (.cells #[a, b, c, d, e] t)).cell? (Addr.add ⟨w.heap.size, 0, none⟩ j) = some x :=
  World.news_of_block (blk_alloc_new w (.cells #[a, b, c, d, e] t))

/-- The marks are drawn: one more row is done. -/
theorem marks_done {w0 w w' : World} {S : Nat → Option BK} {R K K' m g c n : Nat} {a : Option Addr} {len cap : Nat} {L : List (Nat × Obj)} (h : MInv w R K a len cap m g c w') (hd : DS w0 S R K' a len cap L w') (hrows : RowsIn S w) (hm : m ≤ 4) (hL : ∀ p, p ∈ L → p.1 < w.heap.size) (hn : n < w.heap.size) :
    ∃ S', More n S S' ∧ S' g = some (.marks m) ∧ DS w0 S' R K' a len cap L w' := by
  obtain ⟨xs, hr, hv⟩ := h.row
  have hg := h.base
  have hlt := h.lt
  have hxl : xs.length = m * 2 := hr.1
  have hSg : S g = none := hrows.fresh hg.1
  refine ⟨addK S g (.marks m), addK_more hSg (by omega), addK_self _ _ _, hd.row hSg (by omega) (fun p hp => by have := hL p hp; omega) ?_⟩
  refine hd.rows.addMarks hSg hg.2 ⟨msOf xs m, by simp [msOf], msOf_at hr hv hg.2, fun i hi => ?_⟩
  obtain ⟨_, h1, h2⟩ := getI_of hv (i := i * 2) (by omega)
  obtain ⟨_, h3, h4⟩ := getI_of hv (i := i * 2 + 1) (by omega)
  have e1 : mF (msOf xs m) i = getI xs (i * 2) := by simp [mF, msOf, hi]
  have e2 : mP (msOf xs m) i = getI xs (i * 2 + 1) := by simp [mP, msOf, hi]
  rw [e1, e2]
  omega
/-- An append to the kids, and its store. -/
theorem row_push {w0 wo wE w4 : World} {S S2 : Nat → Option BK} {R K X B m g' c' : Nat} {a : Option Addr} {len cap : Nat} {op : Int} {v : Value} {xs news : List Value} {ov : Obj}
    (hBX : B < X) (hB0 : w0.heap.size ≤ B) (hd : DS w0 S2 R K a len cap [(X, .cells #[.int .i64 op, .int .i64 0, .string ⟨#[]⟩, v, .slice none 0 0] 89 (0, 0)), (B, .cells #[.int .i64 0, .int .i64 0, .string ⟨#[]⟩, .slice none 0 0, .slice none 0 0] 89 (0, 0))] wE)
    (hrow : wo.ownsRow (X + 1) 89 5 v m xs) (hfr : ∀ g, v.ownBlock = some g → S g = none) (hm : More wo.heap.size S S2)
    (hown : w4.ownsRow (X + 1) 89 5 (.slice (some ⟨g', 0, none⟩) (m + 1) c') (m + 1) (xs ++ news))
    (hgrow : (wE.alloc ov).grownBy w4 v.ownBlock) (hat : v.ownBlock = some g' ∨ g' = wE.heap.size + 1) :
    DS w0 S2 R K a len cap [(X, .cells #[.int .i64 op, .int .i64 0, .string ⟨#[]⟩, v, .slice none 0 0] 89 (0, 0)), (B, .cells #[.int .i64 0, .int .i64 0, .string ⟨#[]⟩, .slice none 0 0, .slice none 0 0] 89 (0, 0))] w4 ∧
    (w4.setCell ⟨X, 3, none⟩ (.slice (some ⟨g', 0, none⟩) (m + 1) c')).ownsRow (X + 1) 89 5 (.slice (some ⟨g', 0, none⟩) (m + 1) c') (m + 1) (xs ++ news) ∧
    (∀ g, (Value.slice (some ⟨g', 0, none⟩) (m + 1) c').ownBlock = some g → S2 g = none) ∧
    DS w0 S2 R K a len cap [(X, .cells #[.int .i64 op, .int .i64 0, .string ⟨#[]⟩, .slice (some ⟨g', 0, none⟩) (m + 1) c', .slice none 0 0] 89 (0, 0)), (B, .cells #[.int .i64 0, .int .i64 0, .string ⟨#[]⟩, .slice none 0 0, .slice none 0 0] 89 (0, 0))] (w4.setCell ⟨X, 3, none⟩ (.slice (some ⟨g', 0, none⟩) (m + 1) c')) := by
  have hS2 : ∀ g, v.ownBlock = some g → X + 1 ≤ g ∧ S2 g = none := by
    intro g hg
    obtain ⟨h1, h2⟩ := hrow.lt g hg
    exact ⟨h1, (hm.2 g h2).trans (hfr g hg)⟩
  obtain ⟨hX0, hXb, hXS⟩ := hd.loc _ (.head _)
  have hX0 : w0.heap.size ≤ X := hX0
  have hd4 := (hd.alloc ov).grow hgrow (fun g hg => by
    obtain ⟨h1, h2⟩ := hS2 g hg
    refine ⟨by omega, h2, fun p hp => ?_⟩
    rcases List.mem_cons.1 hp with rfl | hp
    · show X ≠ g; omega
    · rw [List.mem_singleton] at hp
      subst hp
      show B ≠ g
      omega)
  have hg' : S2 g' = none := by
    rcases hat with h | h
    · exact (hS2 g' h).2
    · exact hd.rows.fresh (by omega)
  obtain ⟨-, hXb4, -⟩ := hd4.loc _ (.head _)
  obtain ⟨-, hBb4, hBS4⟩ := hd4.loc _ (.tail _ (.head _))
  have hlt := hown.lt g' rfl
  refine ⟨hd4, ?_, ?_, ?_⟩
  · exact ownsRow_setCell_below hown (by show X < X + 1; omega) _
  · intro g hg
    simp [Value.ownBlock] at hg
    subst hg
    exact hg'
  · have hs := hd4.set (L' := [(B, .cells #[.int .i64 0, .int .i64 0, .string ⟨#[]⟩, .slice none 0 0, .slice none 0 0] 89 (0, 0))]) 3 (.slice (some ⟨g', 0, none⟩) (m + 1) c') hX0 hXS (fun p hp => by
      rw [List.mem_singleton] at hp
      subst hp
      exact ⟨.tail _ (.head _), by show B ≠ X; omega⟩)
    exact hs.add hX0 (blk_set hXb4 3 _) hXS

set_option maxRecDepth 100000 in
set_option maxHeartbeats 4000000 in
theorem l14Rule_any (gn nn cn : Nat) (hn1 : 1 ≤ nn) (hn2 : nn ≤ 10) (hn3 : nn ≤ cn) : ∀ (k : Nat) (depth : Int) (S : Nat → Option BK) (R K : Nat) (a : Option Addr) (len cap : Nat) (w : World), 5 - (k : Int) ≤ depth → 0 ≤ depth → depth ≤ 100 → K + nK k ≤ 1000000 → DS w S R K a len cap [] w → NamesIn w gn nn → gn ≠ R → gn < w.heap.size →
    Calls Tryz.prog 78 #[.pointer (some ⟨R, 0, none⟩), .int .i64 depth, .slice (some ⟨gn, 0, none⟩) nn cn] w (RulePost S (k + 1) R (K + nK k) a len cap w) := by
  intro k
  induction k with
  | zero =>
    intro depth S R K a len cap w hd1 hd0 hd2 hK h hn hgR hg
    refine (l14Rule_leaf (d := 0 + 1) gn nn cn (by omega) h hn hn1 hn2 hn3 hgR hg (by omega)).mono ?_
    intro e w' hp
    exact hp.mono (Nat.le_refl _) (by show _ ≤ K + 30; omega)
  | succ k ih =>
    intro depth S R K a len cap w hd1 hd0 hd2 hK h hn hgR hg
    have hnk : nK (k + 1) = nK k * 5 := rfl
    have hge := nK_ge k
    by_cases hd : 5 ≤ depth
    · refine (l14Rule_leaf (d := k + 1 + 1) gn nn cn (by omega) h hn hn1 hn2 hn3 hgR hg hd).mono ?_
      intro e w' hp
      exact hp.mono (Nat.le_refl _) (by omega)
    · have hR0 := h.lt
      have HD := Lib.hid (h.box #[.int .i64 0, .int .i64 0, .string ⟨#[]⟩, .slice none 0 0, .slice none 0 0] 89)
      have HN := Lib.hid hn
      have HIH := Lib.hid ih
      clear h hn ih
      obtain ⟨d, hdd⟩ : ∃ d, d = k + 1 + 1 := ⟨_, rfl⟩
      rw [← hdd]
      have HDD := Lib.hid hdd
      clear hdd
      go_enter Tryz.func78, Tryz.ntmps78
      go_wp2_with fail
      ((with_reducible refine (pick_ds (by repeat (first | exact HD.out | apply DS.alloc | apply DS.drewN | apply DS.drew)) (by omega) (by omega) (by omega)).mono ?_); rintro e wx ⟨x, rfl, x0, x1, hds, hon⟩; have Hx := Lib.hid hon; clear HD; have HD := Lib.hid hds; clear hds hon)
      by_cases hx : x = 0
      · go_wp2_with fail
        ((with_reducible refine (pick_ds (by repeat (first | exact HD.out | apply DS.alloc | apply DS.drewN | apply DS.drew)) (by omega) (by omega) (by omega)).mono ?_); rintro e wy ⟨y, rfl, y0, y1, hds, hon⟩; have Hy := Lib.hid hon; clear HD; have HD := Lib.hid hds; clear hds hon)
        by_cases hy : y = 0
        · go_wp2_with fail
          refine (of_ds (q := 10) (by repeat (first | exact HD.out | apply DS.alloc | apply DS.drewN | apply DS.drew)) (by omega) gn nn cn hn1 (by omega) hn3 hgR (Nat.lt_of_lt_of_le hg HD.out.on.size) (HN.out.only HD.out.on hg hgR)).mono ?_
          rintro e wz ⟨s, rfl, hs, hds, hon⟩
          obtain ⟨-, hb, hSB⟩ := hds.loc _ (List.mem_singleton.2 rfl)
          have HE := Lib.hid hds
          have HSB := Lib.hid hSB
          have c0 := cell_of hb 0
          have c1 := cell_of hb 1
          have c2 := cell_of hb 2
          have c3 := cell_of hb 3
          have c4 := cell_of hb 4
          simp at c0 c1 c2 c3 c4
          have f0 := frozen_of hb 0
          have f1 := frozen_of hb 1
          have f2 := frozen_of hb 2
          have f3 := frozen_of hb 3
          have f4 := frozen_of hb 4
          clear hb hSB hds hon
          go_wp2_with fail
          refine bodyPost_ret (v := .agg #[.int .i64 2, .int .i64 0, .string s, .slice none 0 0, .slice none 0 0]) (by simp [results, Tryz.results78, go_sem, c0, c1, c2, c3, c4]) rfl ⟨S, 2, 0, s, _, _, rfl, Or.inr (Or.inl ⟨rfl, rfl, hs, rfl, rfl⟩), More.refl _ _, ?_⟩
          have hnil : ∀ p, p ∈ ([] : List (Nat × Obj)) → p ∈ ([] : List (Nat × Obj)) ∧ p.1 ≠ w.heap.size := fun p hp => by cases hp
          exact (((((((HE.out.less (L' := []) (fun p hp => by cases hp)).set 0 _ (Nat.le_refl _) HSB.out hnil).set 1 _ (Nat.le_refl _) HSB.out hnil).set 2 _ (Nat.le_refl _) HSB.out hnil).set 3 _ (Nat.le_refl _) HSB.out hnil).set 4 _ (Nat.le_refl _) HSB.out hnil)).mono (by omega)
        · go_wp2_with fail
          ((with_reducible refine (pick_ds (by repeat (first | exact HD.out | apply DS.alloc | apply DS.drewN | apply DS.drew)) (by omega) (by omega) (by omega)).mono ?_); rintro e wp1 ⟨p1, rfl, p10, p11, hds, hon⟩; have Hp1 := Lib.hid hon; clear HD; have HD := Lib.hid hds; clear hds hon)
          go_wp2_with fail
          ((with_reducible refine (pick_ds (by repeat (first | exact HD.out | apply DS.alloc | apply DS.drewN | apply DS.drew)) (by omega) (by omega) (by omega)).mono ?_); rintro e wp2 ⟨p2, rfl, p20, p21, hds, hon⟩; have Hp2 := Lib.hid hon; clear HD; have HD := Lib.hid hds; clear hds hon)
          go_wp2_with fail
          ((with_reducible refine (pick_ds (by repeat (first | exact HD.out | apply DS.alloc | apply DS.drewN | apply DS.drew)) (by omega) (by omega) (by omega)).mono ?_); rintro e wp3 ⟨p3, rfl, p30, p31, hds, hon⟩; have Hp3 := Lib.hid hon; clear HD; have HD := Lib.hid hds; clear hds hon)
          go_wp2_with fail
          have HL := Lib.hid HD.out.here.lt
          ((with_reducible refine (pick_ds (by repeat (first | exact HD.out | apply DS.alloc | apply DS.drewN | apply DS.drew)) (by omega) (by omega) (by omega)).mono ?_); rintro e wp4 ⟨p4, rfl, p40, p41, hds, hon⟩; have Hp4 := Lib.hid hon; clear HD; have HD := Lib.hid hds; clear hds hon)
          obtain ⟨v, hv, q, rfl, q0, q1⟩ := pick_cell (IntIn (-1000000000000) 1000000000000) Hp4.out HL.out (by
            intro v hv
            simp at hv
            rcases hv with rfl | rfl | rfl | rfl | rfl
            all_goals exact ⟨_, rfl, by omega, by omega⟩) p40 p41
          obtain ⟨-, hb, hSB⟩ := HD.out.loc _ (List.mem_singleton.2 rfl)
          have HSB := Lib.hid hSB
          have c0 := cell_of hb 0
          have c1 := cell_of hb 1
          have c2 := cell_of hb 2
          have c3 := cell_of hb 3
          have c4 := cell_of hb 4
          simp at c0 c1 c2 c3 c4
          have f0 := frozen_of hb 0
          have f1 := frozen_of hb 1
          have f2 := frozen_of hb 2
          have f3 := frozen_of hb 3
          have f4 := frozen_of hb 4
          clear hb hSB
          go_wp2_with fail
          refine bodyPost_ret (v := .agg #[.int .i64 1, .int .i64 q, .string ⟨#[]⟩, .slice none 0 0, .slice none 0 0]) (by simp [results, Tryz.results78, go_sem, c0, c1, c2, c3, c4]) rfl ⟨S, 1, q, ⟨#[]⟩, _, _, rfl, Or.inl ⟨rfl, ⟨q0, q1⟩, rfl, rfl, rfl⟩, More.refl _ _, ?_⟩
          have hnil : ∀ p, p ∈ ([] : List (Nat × Obj)) → p ∈ ([] : List (Nat × Obj)) ∧ p.1 ≠ w.heap.size := fun p hp => by cases hp
          exact (((((((HD.out.less (L' := []) (fun p hp => by cases hp)).set 0 _ (Nat.le_refl _) HSB.out hnil).set 1 _ (Nat.le_refl _) HSB.out hnil).set 2 _ (Nat.le_refl _) HSB.out hnil).set 3 _ (Nat.le_refl _) HSB.out hnil).set 4 _ (Nat.le_refl _) HSB.out hnil)).mono (by omega)
      · go_upto_region 6 with ((with_reducible refine (pick_ds (by repeat (first | exact HD.out | apply DS.alloc | apply DS.drewN | apply DS.drew)) (by omega) (by omega) (by omega)).mono ?_); rintro e wz ⟨z, rfl, z0, z1, hds, hon⟩; have Hz := Lib.hid hon; clear HD; have HD := Lib.hid hds; clear hds hon)
        obtain ⟨op, hop⟩ : ∃ op, op = 3 + z := ⟨_, rfl⟩
        have o1 : 3 ≤ op := by omega
        have o2 : op ≤ 10 := by omega
        rw [← hop]
        have HD2 := Lib.hid (HD.out.box #[.int .i64 op, .int .i64 0, .string ⟨#[]⟩, .slice none 0 0, .slice none 0 0] 89)
        have hwz := HD.out.on.size
        have hBX := heap_lt (HD.out.loc _ (.head _)).2.1
        obtain ⟨w1, hw1⟩ : ∃ w1, w1 = wz.alloc (.cells #[.int .i64 op, .int .i64 0, .string ⟨#[]⟩, .slice none 0 0, .slice none 0 0] 89) := ⟨_, rfl⟩
        obtain ⟨X, hX⟩ : ∃ X, X = wz.heap.size := ⟨_, rfl⟩
        obtain ⟨B, hB⟩ : ∃ B, B = w.heap.size := ⟨_, rfl⟩
        have hXs : w1.heap.size = X + 1 := by rw [hw1, hX]; simp
        simp only [← hX, ← hw1, ← hB] at HD2 hwz hR0 hBX ⊢
        have HB0 : Hid (w.heap.size ≤ B) := Nat.le_of_eq hB.symm
        have HBE := Lib.hid hB
        clear hw1 hX HD hop Hx Hz hB hx
        obtain ⟨-, hb, -⟩ := HD2.out.loc _ (.head _)
        have c0 := cell_of hb 0
        simp at c0
        clear hb
        have hk4 : kidsN op ≤ 4 := by
          unfold kidsN
          split
          · omega
          · split
            · omega
            · split
              · omega
              · split <;> omega
        have hk1 : 1 ≤ kidsN op := by
          unfold kidsN
          rw [if_neg (by omega)]
          split
          · omega
          · split
            · omega
            · split <;> omega
        obtain ⟨N, hN⟩ : ∃ N, N = kidsN op := ⟨_, rfl⟩
        have HN2 := Lib.hid hN
        rw [← hN] at hk4 hk1
        have HKA : Hid (∀ w, Calls Tryz.prog 94 #[.int .i64 op] w fun e w' => e = .returned (.int .i64 N) ∧ w = w') := by
          intro w
          rw [hN]
          exact l4Kids_any op w (by omega) o2
        clear hN
        go_wp2_with (go_at_call 94; ((with_reducible refine (HKA.out _).mono ?_); rintro e w' ⟨rfl, rfl⟩))
        go_loopw [8] (fun jv wr => ∃ (j m : Nat) (S' : Nat → Option BK) (v : Value) (xs : List Value), jv = .int .i64 j ∧ j + m = N ∧ More B S S' ∧ KidsL S' (k + 1) m xs ∧ wr.ownsRow (X + 1) 89 5 v m xs ∧ (∀ g, v.ownBlock = some g → S' g = none) ∧ DS w S' R (K + 2 + m * nK k) a len cap [(X, .cells #[.int .i64 op, .int .i64 0, .string ⟨#[]⟩, v, .slice none 0 0] 89 (0, 0)), (B, .cells #[.int .i64 0, .int .i64 0, .string ⟨#[]⟩, .slice none 0 0, .slice none 0 0] 89 (0, 0))] wr) (fun jv _ => (intOf jv).toNat)
        case atStart => exact ⟨N, 0, S, .slice none 0 0, [], rfl, by omega, More.refl _ _, (fun i hi => absurd hi (by omega)), ⟨rfl, Or.inl ⟨rfl, rfl⟩⟩, (fun g hg => by simp [Value.ownBlock] at hg), HD2.out.mono (by omega)⟩
        case round =>
          obtain ⟨j, m, S', v, xs, rfl, hjm, hmore, hkids, hrow, hfr, hds⟩ := hrel
          clear HD2 c0
          obtain ⟨wo, rfl⟩ : ∃ wo, wo = wr := ⟨_, rfl⟩
          have HD := Lib.hid hds
          have HROW := Lib.hid hrow
          have HFR := Lib.hid hfr
          have HM := Lib.hid hmore
          have HKL := Lib.hid hkids
          clear hrow hfr hmore hkids
          obtain ⟨hwX, hbX, hSX⟩ := hds.loc _ (.head _)
          have c0 := cell_of hbX 0
          have c1 := cell_of hbX 1
          have c2 := cell_of hbX 2
          have c3 := cell_of hbX 3
          have c4 := cell_of hbX 4
          simp at c0 c1 c2 c3 c4
          clear hds hbX hSX hwX
          by_cases hj : 0 < j
          · have hm3 : m + 1 ≤ N := by omega
            have hmul : (m + 1) * nK k = m * nK k + nK k := Nat.succ_mul _ _
            have hmb : (m + 1) * nK k ≤ 4 * nK k := Nat.mul_le_mul_right _ (by omega)
            obtain ⟨KK, hKK⟩ : ∃ KK, KK = K + 2 + m * nK k := ⟨_, rfl⟩
            have hKK2 : KK + nK k = K + 2 + (m + 1) * nK k := by omega
            have hKb : KK + nK k ≤ 1000000 := by omega
            rw [← hKK] at HD
            have HKK := Lib.hid hKK2
            have hgw : gn < wo.heap.size := Nat.lt_of_lt_of_le hg HD.out.on.size
            have HC := Lib.hid (HIH.out (depth + 1) S' R KK a len cap wo.drew (by omega) (by omega) (by omega) hKb HD.out.drew.here (HN.out.only HD.out.drew.on hg hgR) hgR hgw)
            have hRX : R < X + 1 := by omega
            have sw : IntKind.i64.wrap (depth + 1) = depth + 1 := IntWalk.i64_in _ (by omega)
            have HHM := Lib.hid hm3
            have HJM := Lib.hid hjm
            have hm4 : m ≤ 4 := by omega
            have hj4 : j ≤ 4 := by omega
            obtain ⟨i0, hi0, hz0, hz1, hz2⟩ := info_parts infoRule
            clear hmul hmb hKK hKK2 hk4 hjm hm3
            go_wp2_with fail
            go_region_law (first | (go_simp; (go_at_call 78; ((with_reducible refine HC.out.mono ?_); rintro e wE ⟨S2, op2, num2, s2, kids2, marks2, rfl, hc2, hm2, hd2⟩; have HDE := Lib.hid (HD.out.drew.call hd2 hm2); obtain ⟨hwX, hbX, hSX⟩ := HDE.out.loc _ (.head _); have c3 := cell_of hbX 3; have f3 := frozen_of hbX 3; simp at c3; have hXE := heap_lt hbX; have HRE := Lib.hid (HROW.out.drew.kept hd2.on (Or.inr (fun e => by have := (HROW.out.lt _ e).1; omega))); have HC2 := Lib.hid hc2; have HM2 := Lib.hid hm2; clear hc2 hm2 hd2 hbX hSX hwX))) | (refine step_append_lies _ rfl (.tmp 48) (.tmp 54) 86 rfl (X + 1) 89 i0 (.agg #[.int .i64 0, .int .i64 0, .string ⟨#[]⟩, .slice none 0 0, .slice none 0 0]) 5 80 Tryz.underlying86 hi0 hz0 hz1 hz2 rfl (by decide) v m xs (by simp [Act.eval]) (HRE.out.kept (World.grownBy_alloc _ _ none) (by cases v.ownBlock <;> simp)) ⟨wE.heap.size, 0, none⟩ 1 1 [.int .i64 op2, .int .i64 num2, .string s2, kids2, marks2] (by simp [Act.eval]) rfl (news_5 _ _ _ _ _ _ _) (one5 HC2.out.one) (by decide) (by unfold maxLen; omega) (by omega) (by simp; omega) (wE.heap.size + 1) (by simp) ?_; intro g' c' w4 hown hgrow hat hlt4; have HP4 := Lib.hid (row_push hBX HB0.out HDE.out HROW.out HFR.out HM2.out hown hgrow hat); clear hown hgrow hat; obtain ⟨hwX, hbX, hSX⟩ := HP4.out.1.loc _ (.head _); have c3 := cell_of hbX 3; have f3 := frozen_of hbX 3; simp at c3; clear hbX hSX hwX))
            all_goals
              go_wp2_with fail
              go_roundw
              case rel =>
                have hkl := (HKL.out.more HM2.out).push HROW.out.1 HC2.out
                refine ⟨j - 1, m + 1, S2, _, _, ?_, by have := HJM.out; omega, HM.out.trans HM2.out (by have := HD.out.on.size; have := HBE.out; show B ≤ wo.heap.size; omega), hkl, HP4.out.2.1, HP4.out.2.2.1, by rw [← HKK.out]; exact HP4.out.2.2.2⟩
                congr 1; omega
              case measure => simp [intOf]; omega
          · have hm : m = N := by omega
            subst hm
            obtain ⟨g, cN, rfl, hgX, hglt⟩ := HROW.out.form (by omega)
            have hmN := hk4
            have hmc : m ≤ cN := by
              rcases HROW.out.2 with h | ⟨g2, c2, cur, h, _, _, h2, _⟩
              · cases h.1
              · simp only [Value.slice.injEq] at h; omega
            have hSg := HFR.out g rfl
            have hrules : RowsIn (addK S' g (.rules (k + 1) m)) wo := HD.out.rows.addRules hSg hglt (fun i hi => by
              obtain ⟨op2, num2, s2, kids2, marks2, hc, e0, e1, e2, e3, e4⟩ := HKL.out i hi
              exact ⟨op2, num2, s2, kids2, marks2, hc, (HROW.out.cellAt _ (by omega)).trans e0, (HROW.out.cellAt _ (by omega)).trans e1, (HROW.out.cellAt _ (by omega)).trans e2, (HROW.out.cellAt _ (by omega)).trans e3, (HROW.out.cellAt _ (by omega)).trans e4⟩)
            have HDR := Lib.hid (HD.out.row (k := .rules (k + 1) m) hSg (by omega) (fun p hp => by
              rcases List.mem_cons.1 hp with rfl | hp
              · show X ≠ g; omega
              · rw [List.mem_singleton] at hp
                subst hp
                show B ≠ g
                omega) hrules)
            have HMR := Lib.hid (HM.out.trans (addK_more (n := B) (k := .rules (k + 1) m) hSg (by omega)) (Nat.le_refl _))
            have hself := addK_self S' g (.rules (k + 1) m)
            obtain ⟨S1, hS1⟩ : ∃ S1, S1 = addK S' g (.rules (k + 1) m) := ⟨_, rfl⟩
            rw [← hS1] at HDR HMR hself
            have hmk : m * nK k ≤ 4 * nK k := Nat.mul_le_mul_right _ hk4
            obtain ⟨KK, hKK⟩ : ∃ KK, KK = K + 2 + m * nK k := ⟨_, rfl⟩
            rw [← hKK] at HDR
            have hKb : KK + 20 ≤ K + nK (k + 1) := by omega
            have hSelf := Lib.hid hself
            have hBw : B < wo.heap.size := heap_lt (HDR.out.loc _ (.tail _ (.head _))).2.1
            have hXw : X < wo.heap.size := heap_lt (HDR.out.loc _ (.head _)).2.1
            clear hmk hKK hself hS1 hrules hSg HD HROW HFR HM HKL c0 c1 c2 c3 c4 hjm
            by_cases h10 : op = 10
            · have hb10 : (op == 10) = true := by simp [h10]
              have H10 := Lib.hid h10
              clear h10
              obtain ⟨-, hbX, -⟩ := HDR.out.loc _ (.head _)
              have c0 := cell_of hbX 0
              simp at c0
              clear hbX
              go_wp2_with (go_at_call 95; ((with_reducible refine (l14Marks_any R KK a len cap _ (by omega) HDR.out.rd HDR.out.here.far).mono ?_); rintro e wM ⟨g2, m2, c2, rfl, hm1, hm2, hm3, hmi⟩; have HDM := Lib.hid (HDR.out.pick hmi.on hmi.rd); have HMI := Lib.hid hmi; clear hmi; obtain ⟨hX1, hbX, hX3⟩ := HDM.out.loc _ (.head _); obtain ⟨hB1, hbB, hB3⟩ := HDM.out.loc _ (.tail _ (.head _)); have HX3 := Lib.hid hX3; have HB3 := Lib.hid hB3; have c0 := cell_of hbX 0; have c1 := cell_of hbX 1; have c2' := cell_of hbX 2; have c3 := cell_of hbX 3; have c4 := cell_of hbX 4; have f0 := frozen_of hbX 0; have f1 := frozen_of hbX 1; have f2 := frozen_of hbX 2; have f3 := frozen_of hbX 3; have f4 := frozen_of hbX 4; have d0 := cell_of hbB 0; have d1 := cell_of hbB 1; have d2 := cell_of hbB 2; have d3 := cell_of hbB 3; have d4 := cell_of hbB 4; have g0 := frozen_of hbB 0; have g1 := frozen_of hbB 1; have g2' := frozen_of hbB 2; have g3 := frozen_of hbB 3; have g4 := frozen_of hbB 4; simp at c0 c1 c2' c3 c4 d0 d1 d2 d3 d4; have hXB : ¬ X = B := (by omega); clear hbX hbB hX1 hX3 hB1 hB3))
              obtain ⟨S2, hMS, hS2, hD2⟩ := marks_done HMI.out HDM.out HDR.out.rows hm2 (fun p hp => by
                rcases List.mem_cons.1 hp with rfl | hp
                · exact hXw
                · rw [List.mem_singleton] at hp
                  subst hp
                  exact hBw) hBw
              refine bodyPost_ret (v := .agg #[.int .i64 op, .int .i64 0, .string ⟨#[]⟩, .slice (some ⟨g, 0, none⟩) m cN, .slice (some ⟨g2, 0, none⟩) m2 c2]) (by simp [results, Tryz.results78, go_sem, d0, d1, d2, d3, d4]) rfl ⟨S2, op, 0, ⟨#[]⟩, _, _, rfl, Or.inr (Or.inr ⟨o1, o2, rfl, rfl, ⟨g, cN, k + 1, by rw [← HN2.out], by rw [← HN2.out]; exact hmc, by rw [← HN2.out]; exact hMS.1 _ _ hSelf.out, by have := HDD.out; omega⟩, Or.inr ⟨H10.out, g2, m2, c2, rfl, hm1, hm2, hm3, hS2⟩⟩), (by have := HMR.out.trans hMS (by omega); rwa [HBE.out] at this), ?_⟩
              have hX2 : S2 X = none := (hD2.loc _ (.head _)).2.2
              have hB2 : S2 B = none := (hD2.loc _ (.tail _ (.head _))).2.2
              have hXw0 : w.heap.size ≤ X := (hD2.loc _ (.head _)).1
              have hBw0 : w.heap.size ≤ B := (hD2.loc _ (.tail _ (.head _))).1
              have hnil : ∀ b p, p ∈ ([] : List (Nat × Obj)) → p ∈ ([] : List (Nat × Obj)) ∧ p.1 ≠ b := fun b p hp => by cases hp
              exact (((((((hD2.less (L' := []) (fun p hp => by cases hp)).set 4 _ hXw0 hX2 (hnil _)).set 0 _ hBw0 hB2 (hnil _)).set 1 _ hBw0 hB2 (hnil _)).set 2 _ hBw0 hB2 (hnil _)).set 3 _ hBw0 hB2 (hnil _)).set 4 _ hBw0 hB2 (hnil _)).mono hKb
            · have hb10 : (op == 10) = false := by simp [h10]
              obtain ⟨hX1, hbX, hX3⟩ := HDR.out.loc _ (.head _)
              obtain ⟨hB1, hbB, hB3⟩ := HDR.out.loc _ (.tail _ (.head _))
              have c0 := cell_of hbX 0
              have c1 := cell_of hbX 1
              have c2 := cell_of hbX 2
              have c3 := cell_of hbX 3
              have c4 := cell_of hbX 4
              have d0 := cell_of hbB 0
              have d1 := cell_of hbB 1
              have d2 := cell_of hbB 2
              have d3 := cell_of hbB 3
              have d4 := cell_of hbB 4
              have g0 := frozen_of hbB 0
              have g1 := frozen_of hbB 1
              have g2 := frozen_of hbB 2
              have g3 := frozen_of hbB 3
              have g4 := frozen_of hbB 4
              simp at c0 c1 c2 c3 c4 d0 d1 d2 d3 d4
              have H10 := Lib.hid h10
              have HB3 := Lib.hid hB3
              have HB1 := Lib.hid hB1
              have hXB : ¬ X = B := by omega
              clear hbX hbB hX1 hX3 hB1 hB3 h10
              go_wp2_with fail
              refine bodyPost_ret (v := .agg #[.int .i64 op, .int .i64 0, .string ⟨#[]⟩, .slice (some ⟨g, 0, none⟩) m cN, .slice none 0 0]) (by simp [results, Tryz.results78, go_sem, d0, d1, d2, d3, d4]) rfl ⟨S1, op, 0, ⟨#[]⟩, _, _, rfl, Or.inr (Or.inr ⟨o1, o2, rfl, rfl, ⟨g, cN, k + 1, by rw [← HN2.out], by rw [← HN2.out]; exact hmc, by rw [← HN2.out]; exact hSelf.out, by have := HDD.out; omega⟩, Or.inl ⟨H10.out, rfl⟩⟩), (by have := HMR.out; rwa [HBE.out] at this), ?_⟩
              have hnil : ∀ b p, p ∈ ([] : List (Nat × Obj)) → p ∈ ([] : List (Nat × Obj)) ∧ p.1 ≠ b := fun b p hp => by cases hp
              exact ((((((HDR.out.less (L' := []) (fun p hp => by cases hp)).set 0 _ HB1.out HB3.out (hnil _)).set 1 _ HB1.out HB3.out (hnil _)).set 2 _ HB1.out HB3.out (hnil _)).set 3 _ HB1.out HB3.out (hnil _)).set 4 _ HB1.out HB3.out (hnil _)).mono (by omega)

end My
end Go.Proofs.YtjmlekhgnbbjoaaGreatDoor
