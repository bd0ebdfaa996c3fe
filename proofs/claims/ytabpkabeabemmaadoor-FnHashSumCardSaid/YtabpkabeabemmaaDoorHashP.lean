/- SHA-256: the reference's padding. -/
import Derived.Test.YtabpkabeabemmaaDoorHashM
import Derived.Laws.IdiomStrings
import Derived.Lib.UnsafeStr
namespace Go.Proofs.YtabpkabeabemmaaDoor
open Go.RowKit Go.Deep
set_option linter.unusedVariables false
namespace My

/-- A row of bytes that the call owns; no cell of it is frozen. -/
structure OwnB (w : World) (base g cap : Nat) (bs : List UInt8) : Prop where
  ge : base ≤ g
  row : ∃ cur fz, w.heap[g]? = some (.cells cur 5 fz) ∧ (fz = (0, 0) ∨ cur.size ≤ fz.1) ∧ bs.length ≤ cap ∧ cap ≤ maxLen ∧ cur.size = cap ∧ cur.toList.take bs.length = Lib.byteCells bs
theorem OwnB.lt {w : World} {base g cap : Nat} {bs : List UInt8} (h : OwnB w base g cap bs) : g < w.heap.size := by
  obtain ⟨cur, fz, hg, _⟩ := h.row
  exact (Array.getElem?_eq_some_iff.1 hg).1
theorem OwnB.below {w w' : World} {base g cap : Nat} {bs : List UInt8} (h : OwnB w base g cap bs) (hb : Below w.heap.size w w') : OwnB w' base g cap bs := by
  refine ⟨h.ge, ?_⟩
  obtain ⟨cur, fz, hg, hr⟩ := h.row
  exact ⟨cur, fz, (hb.block g h.lt).trans hg, hr⟩
theorem OwnB.cap_ge {w : World} {base g cap : Nat} {bs : List UInt8} (h : OwnB w base g cap bs) : bs.length ≤ cap := by
  obtain ⟨cur, fz, hg, _, hr, _⟩ := h.row
  exact hr
theorem OwnB.cell {w : World} {base g cap : Nat} {bs : List UInt8} (h : OwnB w base g cap bs) {i : Nat} (hi : i < bs.length) : w.cell? ⟨g, i, none⟩ = some (.int .u8 ((bs.getD i 0).toNat : Int)) := by
  obtain ⟨cur, fz, hg, _, hr, _, hs, ht⟩ := h.row
  have h1 : (cur.toList.take bs.length)[i]? = (Lib.byteCells bs)[i]? := by rw [ht]
  rw [List.getElem?_take_of_lt hi] at h1
  have h2 : (Lib.byteCells bs)[i]? = some (.int .u8 ((bs.getD i 0).toNat : Int)) := by
    unfold Lib.byteCells
    rw [List.getElem?_map, List.getElem?_eq_getElem hi, List.getD_eq_getElem?_getD, List.getElem?_eq_getElem hi]
    rfl
  rw [h2] at h1
  simp only [World.cell?, hg]
  simpa using h1
theorem infoU8 : (Tryd.prog.info? 5).map (fun i => (i.zero, i.size, i.bytes)) = some (some (.int .u8 0), 1, 1) := by kernel_rfl

/-- What '[]byte(s)' gives. -/
theorem ownB_conv (w : World) (s : ByteArray) (base cap : Nat) (hb : base ≤ w.heap.size) (h1 : s.size ≤ cap) (h2 : cap ≤ maxLen) :
    OwnB (w.drew.alloc (.cells (bytesRow s cap) 5 ((bytesRow s cap).size, (bytesRow s cap).size + 1))) base w.heap.size cap s.data.toList := by
  have hl : s.data.toList.length = s.size := Array.length_toList
  refine ⟨hb, _, _, heap_alloc_new w.drew _, Or.inr (Nat.le_refl _), by rw [hl]; exact h1, h2, ?_, ?_⟩
  · unfold bytesRow
    rw [Array.size_append, Array.size_map, Array.size_replicate]
    have : s.data.size = s.size := rfl
    omega
  · unfold bytesRow Lib.byteCells
    rw [Array.toList_append, Array.toList_map, List.take_left' (by rw [List.length_map])]

/-- One byte is appended. -/
theorem run_append1 (w : World) {base g cap : Nat} {bs : List UInt8} (h : OwnB w base g cap bs) (hb : Nat) (b : UInt8) (hc : w.cell? ⟨hb, 0, none⟩ = some (.int .u8 (b.toNat : Int))) (n : Nat) (hn : n = bs.length) (hl : n ≤ 4000000) (hbase : base ≤ w.heap.size) (ty : TypeId) :
    ∃ g' cap' w', (Builtin.append_ #[24, 24] ty #[.slice (some ⟨g, 0, none⟩) n cap, .slice (some ⟨hb, 0, none⟩) 1 1]).run Tryd.prog w = .ok (.slice (some ⟨g', 0, none⟩) (n + 1) cap') w' ∧
      OwnB w' base g' cap' (bs ++ [b]) ∧ w.grownBy w' (some g) := by
  subst hn
  obtain ⟨i, hi, hz, hs, hy⟩ := info_parts infoU8
  obtain ⟨cur, fz, hg, hfz, hlc, hcm, hcs, ht⟩ := h.row
  have hnews : ∀ j u, [Value.int .u8 (b.toNat : Int)][j]? = some u → w.cell? ((⟨hb, 0, none⟩ : Addr).add j) = some u := by
    intro j u hu
    cases j with
    | zero => simp at hu; rw [← hu]; exact hc
    | succ j => simp at hu
  by_cases hroom : bs.length + 1 ≤ cap
  · have hf := run_firstCells_some (P := Tryd.prog) w i.size 1 ⟨hb, 0, none⟩ 1 1 [Value.int .u8 (b.toNat : Int)] (by rw [hs]; rfl) hnews
    have hadd : (⟨g, bs.length * i.size, none⟩ : Addr).add 0 = ⟨g, bs.length, none⟩ := by rw [hs]; unfold Addr.add; split <;> simp_all
    have hlt : bs.length < cur.size := by omega
    have hcell : w.cell? ⟨g, bs.length, none⟩ = some cur[bs.length] := by simp [World.cell?, hg, hlt]
    have hfro : w.frozen? ⟨g, bs.length, none⟩ = false := by
      simp only [World.frozen?, hg, Bool.and_eq_false_iff, decide_eq_false_iff_not]
      rcases hfz with rfl | hfz
      · right; omega
      · left; omega
    have hst : (storeCells ⟨g, bs.length * i.size, none⟩ [Value.int .u8 (b.toNat : Int)] 0).run Tryd.prog w = .ok () (w.setRow g (cur.setIfInBounds bs.length (.int .u8 (b.toNat : Int)))) := by
      simp only [storeCells, Sem.run_bind]
      rw [hadd, run_store Tryd.prog w _ (.int .u8 (b.toNat : Int)) _ rfl, hcell]
      simp [hfro, setCell_eq_setRow w g bs.length cur _ fz (.int .u8 (b.toNat : Int)) hg, Result.andThen_ok]
    refine ⟨g, cap, w.setRow g (cur.setIfInBounds bs.length (.int .u8 (b.toNat : Int))), ?_, ⟨h.ge, cur.setIfInBounds bs.length (.int .u8 (b.toNat : Int)), fz, setRow_heap w g cur _ _ _ hg, ?_, ?_, hcm, ?_, ?_⟩, ⟨rfl, rfl, rfl, by simp, fun k _ hk => setRow_other w g k _ (fun e => hk (by simp [e]))⟩⟩
    · simp [Builtin.append_, run_underlying Tryd.underlying24, sizeOf, typeInfo, hi, Builtin.lenOf, hroom, hf, Addr.add_lit, hst]
    · rcases hfz with rfl | hfz
      · exact Or.inl rfl
      · exact Or.inr (by simpa using hfz)
    · simpa using hroom
    · simpa using hcs
    · rw [Array.toList_setIfInBounds, List.length_append, List.length_singleton, Lib.byteCells_append]
      rw [List.take_succ_eq_append_getElem (by simpa using hlt), List.take_set_of_le (Nat.le_refl _), ht]
      simp [Lib.byteCells]
  · have holds : ∀ j u, (Lib.byteCells bs)[j]? = some u → w.cell? ((⟨g, 0, none⟩ : Addr).add j) = some u := by
      intro j u hu
      have hj : j < bs.length := by
        have := (List.getElem?_eq_some_iff.1 hu).1
        simpa [Lib.byteCells] using this
      have h2 : (⟨g, 0, none⟩ : Addr).add j = ⟨g, j, none⟩ := by unfold Addr.add; split <;> simp_all
      rw [h2]
      have := h.cell hj
      rw [this, ← hu]
      unfold Lib.byteCells
      rw [List.getElem?_map, List.getElem?_eq_getElem hj, List.getD_eq_getElem?_getD, List.getElem?_eq_getElem hj]
      rfl
    have hlo : (Lib.byteCells bs).length = bs.length * i.size := by rw [hs, Nat.mul_one]; exact Lib.byteCells_length bs
    have hr := run_append_grow (P := Tryd.prog) w 24 ty 5 i (.int .u8 0) Tryd.underlying24 hi hz ⟨g, 0, none⟩ bs.length cap (Lib.byteCells bs) hlo holds ⟨hb, 0, none⟩ 1 1 [Value.int .u8 (b.toNat : Int)] (by rw [hs]; rfl) hnews (by omega) (by omega) (growslice_fits (by omega) (by rw [hy]; omega))
    have hge := grownCap_ge w (bs.length + 1) cap 5
    have hle := grownCap_le_maxLen w (bs.length + 1) cap 5 (by unfold maxLen; omega)
    refine ⟨w.heap.size, _, _, hr, ⟨hbase, _, _, heap_alloc_new w.drew _, Or.inl rfl, by simpa using hge, hle, ?_, ?_⟩, ⟨rfl, rfl, rfl, by simp, fun k hk _ => blk_alloc_lt w.drew _ _ hk⟩⟩
    · have hzz : (Value.int IntKind.u8 0).cells.size = 1 := rfl
      simp only [Array.size_append, List.size_toArray, size_zeroCells, hzz, Lib.byteCells_length, List.length_singleton]
      omega
    · simp only [Array.toList_append, List.append_assoc, List.length_append, List.length_singleton, Lib.byteCells_append]
      rw [← List.append_assoc, show bs.length + 1 = (Lib.byteCells bs ++ [Value.int .u8 (b.toNat : Int)]).length from by simp [Lib.byteCells]]
      exact List.take_left

theorem wpList_append1 (w : World) {ops : Array Oper} {rest : List Oper} {o : Oper} {a : Act} {Q : Exit → Act → World → Prop} (hgd : o.guard = none) (s x : Operand)
    (ho : o.op = .call { callee := .builtin .append, args := #[s, x], argTypes := #[24, 24] }) {base g cap : Nat} {bs : List UInt8} (hown : OwnB w base g cap bs) (hb : Nat) (b : UInt8) (hc : w.cell? ⟨hb, 0, none⟩ = some (.int .u8 (b.toNat : Int)))
    (n : Nat) (hn : n = bs.length) (hl : n ≤ 4000000) (hbase : base ≤ w.heap.size) (hs : a.eval s = .slice (some ⟨g, 0, none⟩) n cap) (hx : a.eval x = .slice (some ⟨hb, 0, none⟩) 1 1)
    (h : ∀ g' cap' w', OwnB w' base g' cap' (bs ++ [b]) → w.grownBy w' (some g) → wpList Tryd.prog ops Q rest (a.put o.dst (.slice (some ⟨g', 0, none⟩) (n + 1) cap')) w') : wpList Tryd.prog ops Q (o :: rest) a w := by
  refine wpList_plain hgd fun K hK => ?_
  obtain ⟨g', cap', w', hr, h2, h3⟩ := run_append1 w hown hb b hc n hn hl hbase o.type
  unfold Oper.wp execOp
  simp only [ho, resolve, invoke, builtin, Sem.run_bind, Sem.run_pure, Result.andThen_ok, List.map_toArray, List.map_cons, List.map_nil, hs, hx, hr]
  exact hK _ _ (h g' cap' w' h2 h3)

/-- How many noughts lie behind the one bit. -/
def padZ (n : Nat) : Nat := (119 - n % 64) % 64
def be8 (n : Nat) (k : Nat) : List UInt8 := (List.range k).map fun j => UInt8.ofNat (n / 2 ^ (8 * (7 - j)))
def padL (s : List UInt8) : List UInt8 := s ++ [128] ++ List.replicate (padZ s.length) 0 ++ be8 (s.length * 8) 8
theorem be8_succ (n k : Nat) : be8 n (k + 1) = be8 n k ++ [UInt8.ofNat (n / 2 ^ (8 * (7 - k)))] := by simp [be8, List.range_succ]
theorem be8_length (n k : Nat) : (be8 n k).length = k := by simp [be8]

theorem u8_wrap (n k : Nat) : IntKind.u8.wrap ((n : Int) / 2 ^ k) = ((UInt8.ofNat (n / 2 ^ k)).toNat : Int) := by
  rw [UInt8.toNat_ofNat']
  have : ((n : Int) / 2 ^ k) = ((n / 2 ^ k : Nat) : Int) := by simp
  rw [this]
  unfold IntKind.wrap
  generalize n / 2 ^ k = m
  simp [IntKind.bits]
  intro h
  cases h

structure PadB (W : World) (g c : Nat) (bs : List UInt8) (w : World) : Prop where
  own : OwnB w W.heap.size g c bs
  b : Below W.heap.size W w
theorem PadB.below {W w w' : World} {g c : Nat} {bs : List UInt8} (h : PadB W g c bs w) (hb : Below w.heap.size w w') : PadB W g c bs w' :=
  ⟨h.own.below hb, h.b.trans (hb.mono h.b.size)⟩
theorem PadB.push {W w w' : World} {g c g' c' : Nat} {bs bs' : List UInt8} (h : PadB W g c bs w) (hown : OwnB w' W.heap.size g' c' bs') (hgrow : w.grownBy w' (some g)) : PadB W g' c' bs' w' :=
  ⟨hown, h.b.grown hgrow h.b.size (fun q hq => by cases hq; exact h.own.ge)⟩

theorem cell_new1 (w : World) (v : Value) (t : TypeId) (fz : Nat × Nat) (n : Nat) (h : n = w.heap.size) : (w.alloc (.cells #[v] t fz)).cell? ⟨n, 0, none⟩ = some v := by
  subst h
  simp only [World.cell?, blk_alloc_new]
  rfl
def lenV : Value → Nat
  | .slice _ n _ => n
  | _ => 0

set_option maxRecDepth 100000 in
set_option maxHeartbeats 8000000 in
theorem l1Padded_any (s : ByteArray) (w : World) (hs : s.size ≤ 1048576) :
    Calls Tryd.prog 19 #[.string s] w fun e w' => ∃ g c, e = .returned (.slice (some ⟨g, 0, none⟩) (padL s.data.toList).length c) ∧ PadB w g c (padL s.data.toList) w' := by
  obtain ⟨T, hT⟩ : ∃ T, T = s.data.toList := ⟨_, rfl⟩
  have hTl : s.size = T.length := by rw [hT]; exact Array.length_toList.symm
  have hcv := fun wx => run_bytes_of_string (P := Tryd.prog) wx 9 24 5 s Tryd.underlying9 Tryd.underlying24 Tryd.underlying5
  have hge := grownCap_ge w s.size 0 5
  have hle := grownCap_le_maxLen w s.size 0 5 (by unfold maxLen; omega)
  have HO := Lib.hid (ownB_conv w s w.heap.size (grownCap w s.size 0 5) (Nat.le_refl _) hge hle)
  have HB := Lib.hid ((Below.refl w.heap.size w).drew.alloc (Nat.le_refl _) (.cells (bytesRow s (grownCap w s.size 0 5)) 5 ((bytesRow s (grownCap w s.size 0 5)).size, (bytesRow s (grownCap w s.size 0 5)).size + 1)))
  clear hge hle
  rw [hTl] at hcv
  rw [hTl] at HO HB
  rw [← hT] at HO ⊢
  have hTb : T.length ≤ 1048576 := by omega
  have hlen := hTl
  clear hTl hs hT
  obtain ⟨Z, hZ⟩ : ∃ Z, Z = padZ T.length := ⟨_, rfl⟩
  have hPL : padL T = T ++ [128] ++ List.replicate Z 0 ++ be8 (T.length * 8) 8 := by unfold padL; rw [← hZ]
  have hZ1 : ∀ k, k < Z → (T.length + 1 + k) % 64 ≠ 56 := by intro k hk; rw [hZ] at hk; unfold padZ at hk; omega
  have hZ2 : (T.length + 1 + Z) % 64 = 56 := by rw [hZ]; unfold padZ; omega
  have hZ3 : Z ≤ 63 := by rw [hZ]; unfold padZ; omega
  obtain ⟨P, hP⟩ : ∃ P, P = padL T := ⟨_, rfl⟩
  rw [← hP] at hPL ⊢
  have HPL := Lib.hid hPL
  have HZ1 := Lib.hid hZ1
  have HZ2 := Lib.hid hZ2
  clear hP hPL hZ hZ1 hZ2
  have z8 : IntKind.i64.wrap ((T.length : Int) * 8) = (T.length : Int) * 8 := IntWalk.i64_in _ (by omega)
  go_enter Tryd.func19, Tryd.ntmps19
  go_wp2_with (at_builtin; go_loud (refine wpList_append1 _ rfl (.tmp 7) (.tmp 8) rfl (base := w.heap.size) (g := w.heap.size) (cap := grownCap w T.length 0 5) (bs := T) (HO.out.below ((Below.refl _ _).alloc (Nat.le_refl _) _)) (w.heap.size + 1) 128 (cell_new1 _ _ _ _ _ (by simp)) T.length rfl (by omega) (by simp; omega) rfl rfl ?_; intro g1 c1 w1 hown1 hgrow1; have HO1 := Lib.hid hown1; have HG1 := Lib.hid hgrow1; clear hown1 hgrow1))
  have HP1 : Hid (PadB w g1 c1 (T ++ [128] ++ List.replicate 0 0) w1) := by
    rw [List.replicate_zero, List.append_nil]
    exact ⟨HO1.out, (HB.out.alloc (by simp) _).grown HG1.out (by simp; omega) (fun q hq => by cases hq; exact Nat.le_refl _)⟩
  clear HO1 HG1 HO HB
  go_loopw [3] (fun l w' => ∃ (k N g c : Nat), l = .slice (some ⟨g, 0, none⟩) N c ∧ N = T.length + 1 + k ∧ k ≤ Z ∧ PadB w g c (T ++ [128] ++ List.replicate k 0) w') (fun l _ => T.length + 100 - lenV l)
  case atStart => exact ⟨0, T.length + 1, g1, c1, rfl, by omega, by omega, HP1.out⟩
  case round =>
    obtain ⟨k, N, g, c, rfl, hN, hk, hp⟩ := hrel
    obtain ⟨wo, rfl⟩ : ∃ wo, wo = wr := ⟨_, rfl⟩
    clear HP1
    have HP := Lib.hid hp
    have hsz := hp.b.size
    clear hp
    have hNb : N ≤ 1048640 := by omega
    have HN := Lib.hid hN
    obtain ⟨r, hr⟩ : ∃ r, r = N % 64 := ⟨_, rfl⟩
    have e1 : (N : Int).tmod 64 = (r : Int) := by rw [Int.tmod_eq_emod_of_nonneg (by omega)]; omega
    by_cases hlt : k < Z
    · have hne : r ≠ 56 := by rw [hr, hN]; exact HZ1.out k hlt
      clear hN
      have hne2 : (r : Int) ≠ 56 := by omega
      have e2 : IntKind.i64.wrap (r : Int) = (r : Int) := IntWalk.i64_in _ (by omega)
      clear hr hne
      go_wp2_with (at_builtin; go_loud (refine wpList_append1 _ rfl (.tmp 14) (.tmp 15) rfl (base := w.heap.size) (g := g) (cap := c) (bs := T ++ [128] ++ List.replicate k 0) (HP.out.own.below ((Below.refl _ _).alloc (Nat.le_refl _) _)) wo.heap.size 0 (cell_new1 _ _ _ _ _ rfl) N (by have := HN.out; simp; omega) (by omega) (by simp; omega) rfl rfl ?_; intro g2 c2 w2 hown2 hgrow2; have HP2 := Lib.hid ((HP.out.below ((Below.refl _ _).alloc (Nat.le_refl _) (.cells #[.int .u8 0] 5))).push hown2 hgrow2); clear hown2 hgrow2))
      go_roundw
      case rel =>
        refine ⟨k + 1, N + 1, g2, c2, rfl, by have := HN.out; omega, by omega, ?_⟩
        have := HP2.out
        rw [List.append_assoc _ (List.replicate k 0), ← List.replicate_succ'] at this
        exact this
      case measure => have := HN.out; simp [lenV]; omega
    · have ek : k = Z := by omega
      subst ek
      have e56 : r = 56 := by rw [hr, hN]; exact HZ2.out
      clear hN
      subst e56
      clear hr hlt
      have HQ : Hid (PadB w g c (T ++ [128] ++ List.replicate k 0 ++ be8 (T.length * 8) 0) wo) := by
        have := HP.out
        rw [← List.append_nil (T ++ [128] ++ List.replicate k 0)] at this
        exact this
      clear HP
      rw [show ((56 : Nat) : Int) = 56 from rfl] at e1
      go_wp2_with fail
      go_loopw [3, 5] (fun l i w' => ∃ (j M g c : Nat), l = .slice (some ⟨g, 0, none⟩) M c ∧ M = N + j ∧ i = .int .i64 (7 - (j : Int)) ∧ j ≤ 8 ∧ PadB w g c (T ++ [128] ++ List.replicate k 0 ++ be8 (T.length * 8) j) w') (fun l _ _ => T.length + 100 - lenV l)
      case atStart => exact ⟨0, N, g, c, rfl, by omega, rfl, by omega, HQ.out⟩
      case round =>
        obtain ⟨j, M, g, c, rfl, hM, rfl, hj, hp⟩ := hrel
        obtain ⟨wo, rfl⟩ : ∃ wo, wo = wr := ⟨_, rfl⟩
        clear HQ
        have HP := Lib.hid hp
        have hsz := hp.b.size
        clear hp
        have hMb : M ≤ 1048660 := by omega
        have HM := Lib.hid hM
        clear hM
        by_cases hlt : j < 8
        · obtain ⟨q, hq⟩ : ∃ q : Nat, 7 - (j : Int) = (q : Int) := ⟨7 - j, by omega⟩
          rw [hq]
          have z1 : IntKind.i64.wrap (8 * (q : Int)) = 8 * (q : Int) := IntWalk.i64_in _ (by omega)
          have y1 : 0 ≤ 8 * (q : Int) ∧ 8 * (q : Int) ≤ 64 := ⟨by omega, by omega⟩
          have y0 : (0 : Int) ≤ (q : Int) := by omega
          have t1 : (8 * (q : Int)).toNat = 8 * q := by omega
          have zz : IntKind.i64.wrap ((q : Int) - 1) = (q : Int) - 1 := IntWalk.i64_in _ (by omega)
          obtain ⟨b, hb⟩ : ∃ b, b = UInt8.ofNat (T.length * 8 / 2 ^ (8 * q)) := ⟨_, rfl⟩
          have u1 : IntKind.u8.wrap ((T.length : Int) * 8 / 2 ^ (8 * q)) = (b.toNat : Int) := by
            rw [hb, ← u8_wrap]
            simp
          have HBE : Hid (be8 (T.length * 8) (j + 1) = be8 (T.length * 8) j ++ [b]) := by
            show be8 _ _ = _
            rw [be8_succ, hb, show 7 - j = q from by omega]
          have HQQ := Lib.hid hq
          clear hb hq
          go_wp2_with (at_builtin; go_loud (refine wpList_append1 _ rfl (.tmp 24) (.tmp 30) rfl (base := w.heap.size) (g := g) (cap := c) (bs := T ++ [128] ++ List.replicate k 0 ++ be8 (T.length * 8) j) (HP.out.own.below ((Below.refl _ _).alloc (Nat.le_refl _) _)) wo.heap.size b (cell_new1 _ _ _ _ _ rfl) M (by have := HM.out; have := HN.out; simp [be8_length]; omega) (by omega) (by simp; omega) rfl rfl ?_; intro g2 c2 w2 hown2 hgrow2; have HP2 := Lib.hid ((HP.out.below ((Below.refl _ _).alloc (Nat.le_refl _) (.cells #[.int .u8 (b.toNat : Int)] 5))).push hown2 hgrow2); clear hown2 hgrow2))
          go_roundw
          case rel =>
            refine ⟨j + 1, M + 1, g2, c2, rfl, by have := HM.out; omega, by rw [show (7 - ((j + 1 : Nat) : Int)) = (q : Int) - 1 from by have := HQQ.out; omega], by omega, ?_⟩
            have := HP2.out
            rw [List.append_assoc _ (be8 _ _), ← HBE.out] at this
            exact this
          case measure => have := HM.out; have := HN.out; simp [lenV]; omega
        · have ej : j = 8 := by omega
          subst ej
          rw [show (7 - ((8 : Nat) : Int)) = -1 from rfl]
          go_wp2_with fail
          go_ret
          rw [HPL.out]
          exact ⟨g, c, by congr 2; have := HM.out; have := HN.out; simp [be8_length]; omega, HP.out⟩
end My
end Go.Proofs.YtabpkabeabemmaaDoor
