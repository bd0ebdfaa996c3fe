/- TripWrite, as both have it: what is written. -/
import Derived.Test.YtjmlekhgnbbjoaaGreatDoorTrip
namespace Go.Proofs.YtjmlekhgnbbjoaaGreatDoor
open Go.RowKit Go.Deep
set_option linter.unusedVariables false
namespace My

def joinK (F : Nat → ByteArray) : Nat → List UInt8
  | 0 => []
  | k + 1 => (if k = 0 then [] else joinK F k ++ [45]) ++ (F k).data.toList
def tripL (F : Nat → ByteArray) (n : Nat) (f : ByteArray) (s : Int) : List UInt8 := joinK F n ++ [47] ++ f.data.toList ++ [47] ++ Lib.itoa s
def tripT (F : Nat → ByteArray) (n : Nat) (f : ByteArray) (s : Int) : List UInt8 := if tripB F n f s then tripL F n f s else []
theorem joinK_join (F : Nat → ByteArray) {n : Nat} (h : 1 ≤ n ∧ n ≤ 3) : Lib.join (((List.range n).map F).map (·.data.toList)) [45] = joinK F n := by
  have : n = 1 ∨ n = 2 ∨ n = 3 := by omega
  rcases this with rfl | rfl | rfl
  · simp [List.range_succ, Lib.join_cons, Lib.joinTail, joinK]
  · simp [List.range_succ, Lib.join_cons, Lib.joinTail, joinK]
  · simp [List.range_succ, Lib.join_cons, Lib.joinTail, joinK]
theorem joinK_size {F : Nat → ByteArray} {n : Nat} (h : ∀ k, k < n → (F k).size ≤ 8) : ∀ k, k ≤ n → (joinK F k).length ≤ 9 * k
  | 0, _ => by simp [joinK]
  | k + 1, hk => by
    have ih := joinK_size h k (by omega)
    have h1 := h k (by omega)
    have e : (F k).data.toList.length = (F k).size := Array.length_toList
    simp only [joinK]
    split <;> simp only [List.length_append, List.length_nil, List.length_cons] <;> omega

set_option maxRecDepth 100000 in
set_option maxHeartbeats 2000000 in
theorem l8Write_any (a : Option Addr) (n c : Nat) (f : ByteArray) (s : Int) (F : Nat → ByteArray) (w : World) (h : InS w a n F) (hn : n ≤ 3) (hc : n ≤ c) (hF : ∀ i, i < n → (F i).size ≤ 8) (hf : f.size ≤ 8) (s0 : 1 ≤ s) (s1 : s ≤ 4) :
    Calls Tryz.prog 24 #[.agg #[.slice a n c, .string f, .int .i64 s]] w (StrPost (tripL F n f s) w) := by
  obtain ⟨c0, c1, c2⟩ := boxed (w := w) (u := .slice a n c) (v := .string f) (x := .int .i64 s) (t := 26)
  have hb0 := (Below.refl w.heap.size w).alloc (Nat.le_refl _) (.cells #[.slice a n c, .string f, .int .i64 s] 26)
  have HK := Lib.hid (h.below hb0 (Nat.le_refl _))
  have HB := Lib.hid hb0
  have HF := Lib.hid hF
  have HJ := Lib.hid (joinK_size (F := F) (n := n) hF)
  have hwsz : w.heap.size < (w.alloc (.cells #[.slice a n c, .string f, .int .i64 s] 26)).heap.size := by simp
  obtain ⟨w0, hw0⟩ : ∃ w0, w0 = w.alloc (.cells #[.slice a n c, .string f, .int .i64 s] 26) := ⟨_, rfl⟩
  obtain ⟨tb, htb⟩ : ∃ tb, tb = w.heap.size := ⟨_, rfl⟩
  rw [← hw0] at HK HB c0 c1 c2 hwsz
  rw [← htb] at c0 c1 c2 hwsz
  clear h hF hb0
  go_enter Tryz.func24, Tryz.ntmps24
  go_wp2_with fail
  rw [← hw0, ← htb]
  clear hw0 htb
  go_loop [3, 4] (fun o i => ∃ k : Nat, k ≤ n ∧ i = .int .i64 k ∧ o = .string (txt (joinK F k))) (fun _ i => n - (intOf i).toNat)
  case atStart => exact ⟨0, Nat.zero_le _, rfl, rfl⟩
  case round =>
    obtain ⟨k, hk, rfl, rfl⟩ := hrel
    have z1 : (txt (joinK F k)).size ≤ 27 := by rw [txt_size]; have := HJ.out k hk; omega
    by_cases hlt : k < n
    · obtain ⟨b, off, rfl, hi⟩ : ∃ b off, a = some ⟨b, off, none⟩ ∧ StrsAt w0 b off n F := by
        rcases HK.out with h0 | h0
        · omega
        · exact h0
      have cf := hi.c k hlt
      have z2 := HF.out k hlt
      clear hi
      by_cases h0 : k = 0
      · have HP : Hid (txt (joinK F (k + 1)) = txt (joinK F k) ++ F k) := by
          show _ = _
          subst h0
          rw [← data_txt (F 0)]
          simp only [joinK, txt_app]
          rfl
        have hkz : decide (0 < k) = false := by simp [h0]
        have hkz2 : decide (0 < (k : Int)) = false := by simp [h0]
        have hkz3 : ¬ 0 < (k : Int) := by omega
        clear h0
        go_wp2_with fail
        go_round
        case rel => exact ⟨k + 1, hlt, by go_num, by rw [HP.out]⟩
        case measure => simp [intOf]; omega
      · have HP : Hid (txt (joinK F (k + 1)) = txt (joinK F k) ++ txt [45] ++ F k) := by
          show _ = _
          rw [← data_txt (F k)]
          simp only [joinK, txt_app]
          rw [if_neg h0]
        have hkz3 : 0 < (k : Int) := by omega
        clear h0
        go_wp2_with fail
        go_round
        case rel => exact ⟨k + 1, hlt, by go_num, by rw [HP.out]; rfl⟩
        case measure => simp [intOf]; omega
    · have e : k = n := by omega
      subst e
      have HD := Lib.hid (fun w => l1Dec_any s w (by omega) (by omega))
      have z3 : (txt (Lib.itoa s)).size ≤ 19 := by
        have : Lib.itoa s = Lib.decDigits s.toNat := by unfold Lib.itoa; rw [if_neg (by omega)]
        rw [this]; exact dec_size _ (by omega)
      have HT : Hid (tripL F k f s = joinK F k ++ [47] ++ f.data.toList ++ [47] ++ Lib.itoa s) := rfl
      obtain ⟨P, hP⟩ : ∃ P, P = joinK F k := ⟨_, rfl⟩
      obtain ⟨I, hI⟩ : ∃ I, I = Lib.itoa s := ⟨_, rfl⟩
      rw [← hP] at z1 HT
      rw [← hI] at z3 HT HD
      rw [← hP]
      have y1 : ¬ 9223372036854775807 < (txt P).size + 1 := by omega
      have y2 : ¬ 9223372036854775807 ≤ (txt P).size := by omega
      have y3 : ¬ 9223372036854775807 < (txt P).size + 1 + f.size := by omega
      have y4 : ¬ 9223372036854775807 < (txt P).size + 1 + f.size + 1 := by omega
      have y5 : ¬ 9223372036854775807 ≤ (txt P).size + 1 + f.size := by omega
      have y6 : ¬ 9223372036854775807 < (txt P).size + 1 + f.size + 1 + (txt I).size := by omega
      clear hP hI
      go_wp2_with fail
      go_region_with (go_at_call 43; ((with_reducible refine (HD.out _).mono ?_); rintro e w1 ⟨rfl, hb⟩; have d1 : w1.cell? ⟨tb, 1, none⟩ = some (.string f) := (hb.cell (p := ⟨tb, 1, none⟩) hwsz).trans c1; have HB1 := Lib.hid hb; clear hb))
      all_goals
        go_wp2_with fail
        go_ret
        exact ⟨Eq.trans (b := Ending.returned (.string (txt P ++ txt [47] ++ f ++ txt [47] ++ txt I))) rfl (ret_txt (by rw [HT.out]; conv => lhs; rw [← data_txt f]; simp only [txt_app]; rfl)), bT (HB.out.drew) HB1.out⟩

theorem tripT_size {F : Nat → ByteArray} {n : Nat} {f : ByteArray} {s : Int} : (tripT F n f s).length ≤ 100 := by
  unfold tripT
  split
  · rename_i h
    obtain ⟨h1, _, h3, h4, h5⟩ := trip_parts h
    have := joinK_size (F := F) (n := n) (fun k hk => (nmS_size (h1 k hk)).2) n (Nat.le_refl _)
    have e : f.data.toList.length = f.size := Array.length_toList
    have h6 := (nmS_size h4).2
    have h7 : (Lib.itoa s).length ≤ 19 := by
      have e2 : Lib.itoa s = Lib.decDigits s.toNat := by unfold Lib.itoa; rw [if_neg (by omega)]
      rw [e2, ← txt_size]; exact dec_size _ (by omega)
    simp only [tripL, List.length_append, List.length_cons, List.length_nil]
    omega
  · simp

set_option maxRecDepth 100000 in
theorem sTripWrite_any (a : Option Addr) (n c : Nat) (f : ByteArray) (s : Int) (F : Nat → ByteArray) (w : World) (h : InS w a n F) (hn : n ≤ 1048576) (hc : n ≤ c) (hF : ∀ i, i < n → (F i).size ≤ 1048576) (hf : f.size ≤ 1048576) :
    Calls Tryz.prog 10 #[.agg #[.slice a n c, .string f, .int .i64 s]] w (StrPost (tripT F n f s) w) := by
  have hb0 := (Below.refl w.heap.size w).alloc (Nat.le_refl _) (.cells #[.slice a n c, .string f, .int .i64 s] 26)
  have HB := Lib.hid hb0
  have HK := Lib.hid h
  have HFO := Lib.hid (l8Form_any a n c f s F _ (h.below hb0 (Nat.le_refl _)) hn hc hF hf)
  clear h hb0 hF
  cases ht : tripB F n f s
  · have HT : Hid (tripT F n f s = []) := by show tripT F n f s = []; simp [tripT, ht]
    rw [ht] at HFO
    go_enter Tryz.func10, Tryz.ntmps10
    go_wp2_with (go_at_call 23; ((with_reducible refine HFO.out.mono ?_); rintro e w1 ⟨rfl, hb⟩; have HB1 := Lib.hid hb; clear hb))
    go_ret
    exact ⟨ret_txt (by rw [HT.out]; rfl), bT HB.out HB1.out⟩
  · obtain ⟨h1, _, h3, h4, h5⟩ := trip_parts ht
    have HT : Hid (tripT F n f s = tripL F n f s) := by show tripT F n f s = _; simp [tripT, ht]
    rw [ht] at HFO
    have HW := Lib.hid (fun w' (hi : InS w' a n F) => l8Write_any a n c f s F w' hi h3.2 hc (fun i hi => (nmS_size (h1 i hi)).2) (nmS_size h4).2 h5.1 h5.2)
    clear h1 ht
    obtain ⟨c0, c1, c2⟩ := boxed (w := w) (u := .slice a n c) (v := .string f) (x := .int .i64 s) (t := 26)
    have hwsz : w.heap.size < (w.alloc (.cells #[.slice a n c, .string f, .int .i64 s] 26)).heap.size := by simp
    go_enter Tryz.func10, Tryz.ntmps10
    go_wp2_with fail
    with_reducible refine HFO.out.mono ?_
    rintro e w1 ⟨rfl, hb⟩
    have d0 : w1.cell? ⟨w.heap.size, 0, none⟩ = some (.slice a n c) := (hb.cell (p := ⟨w.heap.size, 0, none⟩) hwsz).trans c0
    have d1 : w1.cell? ⟨w.heap.size, 1, none⟩ = some (.string f) := (hb.cell (p := ⟨w.heap.size, 1, none⟩) hwsz).trans c1
    have d2 : w1.cell? ⟨w.heap.size, 2, none⟩ = some (.int .i64 s) := (hb.cell (p := ⟨w.heap.size, 2, none⟩) hwsz).trans c2
    have HB1 := Lib.hid (bT HB.out hb)
    clear hb c0 c1 c2
    go_wp2_with fail
    refine (HW.out _ (HK.out.below HB1.out (Nat.le_refl _))).mono ?_
    rintro e w2 ⟨rfl, hb2⟩
    have HB2 := Lib.hid (bT HB1.out hb2)
    clear hb2
    go_wp2_with fail
    go_ret
    exact ⟨ret_txt (by rw [HT.out]), HB2.out⟩

set_option maxRecDepth 100000 in
set_option maxHeartbeats 2000000 in
theorem iTripWrite_any (a : Option Addr) (n c : Nat) (f : ByteArray) (s : Int) (F : Nat → ByteArray) (w : World) (h : InS w a n F) (hn : n ≤ 1048576) (hc : n ≤ c) (hc1 : c ≤ 9223372036854775807) (hF : ∀ i, i < n → (F i).size ≤ 1048576) (hf : f.size ≤ 1048576) (henv : EnvT w) :
    Calls Tryz.prog 8 #[.agg #[.slice a n c, .string f, .int .i64 s]] w (StrPost (tripT F n f s) w) := by
  have hb0 := (Below.refl w.heap.size w).alloc (Nat.le_refl _) (.cells #[.slice a n c, .string f, .int .i64 s] 26)
  have HB := Lib.hid hb0
  have HK := Lib.hid h
  have HE := Lib.hid henv
  have HFO := Lib.hid (formed_any a n c f s F _ (h.below hb0 (Nat.le_refl _)) hn hc hc1 hF hf)
  clear h hb0 hF henv
  cases ht : tripB F n f s
  · have HT : Hid (tripT F n f s = []) := by show tripT F n f s = []; simp [tripT, ht]
    rw [ht] at HFO
    go_enter Tryz.func8, Tryz.ntmps8
    go_wp2_with (go_at_call 19; ((with_reducible refine HFO.out.mono ?_); rintro e w1 ⟨rfl, hb⟩; have HB1 := Lib.hid hb; clear hb))
    go_ret
    exact ⟨ret_txt (by rw [HT.out]; rfl), bT HB.out HB1.out⟩
  · obtain ⟨h1, _, h3, h4, h5⟩ := trip_parts ht
    have HT : Hid (tripT F n f s = joinK F n ++ [47] ++ f.data.toList ++ [47] ++ Lib.itoa s) := by show tripT F n f s = _; simp [tripT, ht, tripL]
    rw [ht] at HFO
    have hf8 := (nmS_size h4).2
    have z1 : (txt (joinK F n)).size ≤ 27 := by rw [txt_size]; have := joinK_size (F := F) (n := n) (fun k hk => (nmS_size (h1 k hk)).2) n (Nat.le_refl _); omega
    have z3 : (txt (Lib.itoa s)).size ≤ 19 := by
      have : Lib.itoa s = Lib.decDigits s.toNat := by unfold Lib.itoa; rw [if_neg (by omega)]
      rw [this]; exact dec_size _ (by omega)
    obtain ⟨b, off, rfl, hi0⟩ : ∃ b off, a = some ⟨b, off, none⟩ ∧ StrsAt w b off n F := by
      rcases HK.out with h0 | h0
      · omega
      · exact h0
    have HJ := Lib.hid (fun w' (hb : Below w.heap.size w w') => (show Calls Tryz.prog 20 #[.slice (some ⟨b, off, none⟩) n c, .string ⟨#[45]⟩] w' (StrPost (joinK F n) w') from by
      have hi := hi0.below hb (Nat.le_refl _)
      have := Tryz.strings_Join b off c ((List.range n).map F) ⟨#[45]⟩ w' (fun j x hx => by
        rcases Nat.lt_or_ge j n with hj | hj
        · simp [hj] at hx
          subst hx
          exact hi.c j hj
        · rw [List.getElem?_eq_none (by simp; omega)] at hx; cases hx) hi.lt (by simp; omega) (by simp; omega) (by
        rw [show (⟨#[45]⟩ : ByteArray).data.toList = [45] from rfl, joinK_join F h3, ← txt_size]; omega)
      rw [show (⟨#[45]⟩ : ByteArray).data.toList = [45] from rfl, joinK_join F h3] at this
      rw [show ((List.range n).map F).length = n from by simp] at this
      exact this))
    have HI := Lib.hid (fun (w : World) (h : EnvT w) => itoa_any s w (by omega) (by omega) h)
    obtain ⟨P, hP⟩ : ∃ P, P = joinK F n := ⟨_, rfl⟩
    obtain ⟨I, hI⟩ : ∃ I, I = Lib.itoa s := ⟨_, rfl⟩
    rw [← hP] at z1 HT HJ
    rw [← hI] at z3 HT HI
    clear h1 ht hP hI hi0
    have y1 : ¬ 9223372036854775807 < (txt P).size + 1 := by omega
    have y2 : ¬ 9223372036854775807 ≤ (txt P).size := by omega
    have y3 : ¬ 9223372036854775807 < (txt P).size + 1 + f.size := by omega
    have y4 : ¬ 9223372036854775807 < (txt P).size + 1 + f.size + 1 := by omega
    have y5 : ¬ 9223372036854775807 ≤ (txt P).size + 1 + f.size := by omega
    have y6 : ¬ 9223372036854775807 < (txt P).size + 1 + f.size + 1 + (txt I).size := by omega
    obtain ⟨c0, c1, c2⟩ := boxed (w := w) (u := .slice (some ⟨b, off, none⟩) n c) (v := .string f) (x := .int .i64 s) (t := 26)
    have hwsz : w.heap.size < (w.alloc (.cells #[.slice (some ⟨b, off, none⟩) n c, .string f, .int .i64 s] 26)).heap.size := by simp
    go_enter Tryz.func8, Tryz.ntmps8
    go_wp2_with fail
    with_reducible refine HFO.out.mono ?_
    rintro e w1 ⟨rfl, hb⟩
    have d0 : w1.cell? ⟨w.heap.size, 0, none⟩ = some (.slice (some ⟨b, off, none⟩) n c) := (hb.cell (p := ⟨w.heap.size, 0, none⟩) hwsz).trans c0
    have d1 : w1.cell? ⟨w.heap.size, 1, none⟩ = some (.string f) := (hb.cell (p := ⟨w.heap.size, 1, none⟩) hwsz).trans c1
    have d2 : w1.cell? ⟨w.heap.size, 2, none⟩ = some (.int .i64 s) := (hb.cell (p := ⟨w.heap.size, 2, none⟩) hwsz).trans c2
    have HB1 := Lib.hid (bT HB.out hb)
    have hws1 : w.heap.size < w1.heap.size := by have := hb.size; simp at this; omega
    obtain ⟨tb, htb⟩ : ∃ tb, tb = w.heap.size := ⟨_, rfl⟩
    rw [← htb] at d0 d1 d2 hws1
    clear hb c0 c1 c2 hwsz
    go_wp2_with fail
    rw [← htb]
    clear htb
    go_region_with (first | (go_at_call 20; ((with_reducible refine (HJ.out _ (HB1.out.drew)).mono ?_); rintro e w2 ⟨rfl, hb⟩; have e1 : w2.cell? ⟨tb, 1, none⟩ = some (.string f) := (hb.cell (p := ⟨tb, 1, none⟩) hws1).trans d1; have e2 : w2.cell? ⟨tb, 2, none⟩ = some (.int .i64 s) := (hb.cell (p := ⟨tb, 2, none⟩) hws1).trans d2; have HB2 := Lib.hid (bT HB1.out.drew hb); have hws2 : tb < w2.heap.size := Nat.lt_of_lt_of_le hws1 hb.size; clear hb)) | (go_at_call 21; ((with_reducible refine (HI.out _ (HE.out.below HB2.out)).mono ?_); rintro e w3 ⟨rfl, hb⟩; have f1 : w3.cell? ⟨tb, 1, none⟩ = some (.string f) := (hb.cell (p := ⟨tb, 1, none⟩) hws2).trans e1; have HB3 := Lib.hid (bT HB2.out hb); clear hb)))
    all_goals
      go_wp2_with fail
      go_ret
      exact ⟨Eq.trans (b := Ending.returned (.string (txt P ++ txt [47] ++ f ++ txt [47] ++ txt I))) rfl (ret_txt (by rw [HT.out]; conv => lhs; rw [← data_txt f]; simp only [txt_app]; rfl)), HB3.out⟩

end My
end Go.Proofs.YtjmlekhgnbbjoaaGreatDoor
