/- WirePut, as both have it. -/
import Derived.Test.YtopijgkmgpkmnaaDoorStrs
import Derived.Deep.RegionWith
namespace Go.Proofs.YtopijgkmgpkmnaaDoor
open Go.RowKit Go.Deep
set_option linter.unusedVariables false
namespace My

/-- One word, and k words, as they are written. -/
def word1 (s : ByteArray) : List UInt8 := Lib.decDigits s.size ++ [58] ++ s.data.toList ++ [44]
def putL (F : Nat → ByteArray) : Nat → List UInt8
  | 0 => []
  | k + 1 => putL F k ++ word1 (F k)
def wpT (F : Nat → ByteArray) (n : Nat) : List UInt8 := if n ≤ 40 ∧ (putL F n).length ≤ 6000 then putL F n else []
theorem putL_len (F : Nat → ByteArray) (n : Nat) (h : sumZ F n ≤ 1048576) : ∀ k, k ≤ n → (txt (putL F k)).size ≤ 21 * k + sumZ F k
  | 0, _ => by rw [txt_size]; exact Nat.zero_le _
  | k + 1, hk => by
    have ih := putL_len F n h k (by omega)
    have h1 := sumZ_each (F := F) (n := n) (k := k) (by omega)
    have h2 := dec_size (F k).size (by omega)
    rw [txt_size] at *
    simp only [putL, word1, sumZ, List.length_append, List.length_cons, List.length_nil]
    have e : (F k).data.toList.length = (F k).size := Array.length_toList
    omega

set_option maxRecDepth 100000 in
set_option maxHeartbeats 1000000 in
theorem l3Put_any (a : Option Addr) (n cap : Nat) (F : Nat → ByteArray) (w : World) (h : InS w a n F) (hn : n ≤ 1048576) (hc : n ≤ cap) (hz : sumZ F n ≤ 1048576) :
    Calls Tryd.prog 40 #[.slice a n cap] w (StrPost (putL F n) w) := by
  have hkeep : ∀ w', Below w.heap.size w w' → InS w' a n F := fun w' hb => h.below hb (Nat.le_refl _)
  have HK := Lib.hid hkeep
  have HB := Lib.hid (Below.refl w.heap.size w)
  clear h hkeep
  go_enter Tryd.func40, Tryd.ntmps40
  go_wp2_with fail
  go_loopw [3, 4] (fun o i w' => ∃ k : Nat, k ≤ n ∧ i = .int .i64 k ∧ o = .string (txt (putL F k)) ∧ Below w.heap.size w w') (fun _ i _ => n - (intOf i).toNat)
  case atStart => exact ⟨0, Nat.zero_le _, rfl, rfl, HB.out⟩
  case round =>
    obtain ⟨k, hk, rfl, rfl, hbel⟩ := hrel
    clear HB
    have HB := Lib.hid hbel
    clear hbel
    obtain ⟨wo, rfl⟩ : ∃ wo, wo = wr := ⟨_, rfl⟩
    by_cases hlt : k < n
    · obtain ⟨b, off, rfl, hi⟩ : ∃ b off, a = some ⟨b, off, none⟩ ∧ StrsAt wo b off n F := by
        rcases HK.out _ HB.out with h0 | h0
        · omega
        · exact h0
      have cf := hi.c k hlt
      have hbl := hi.lt
      have p1 := putL_len F n hz k (by omega)
      have p2 := sumZ_part (F := F) (n := n) (k := k) hk
      have p3 : (txt (putL F k)).size ≤ 24000000 := by omega
      have f1 : (F k).size ≤ 1048576 := by have := sumZ_each (F := F) hlt; omega
      have d1 := dec_size (F k).size (by omega)
      have hs : putL F (k + 1) = putL F k ++ (Lib.decDigits (F k).size ++ [58] ++ (F k).data.toList ++ [44]) := rfl
      have HP := Lib.hid hs
      have HD := Lib.hid (fun w => l1Dec_nat (F k).size w (by omega))
      obtain ⟨D, hD⟩ : ∃ D, D = Lib.decDigits (F k).size := ⟨_, rfl⟩
      rw [← hD] at d1 HP HD
      obtain ⟨s, hs2⟩ : ∃ s, s = F k := ⟨_, rfl⟩
      rw [← hs2] at cf f1 HD HP
      obtain ⟨P, hP⟩ : ∃ P, P = putL F k := ⟨_, rfl⟩
      rw [← hP] at p3 HP
      rw [← hP]
      have x1 : (k : Int) < (n : Int) := by omega
      have z1 : ¬ 9223372036854775807 < (txt P).size + (txt D).size := by omega
      have z2 : ¬ 9223372036854775807 < (txt P).size + (txt D).size + 1 := by omega
      have z3 : ¬ 9223372036854775807 ≤ (txt P).size + (txt D).size := by omega
      have z4 : ¬ 9223372036854775807 < (txt P).size + (txt D).size + 1 + s.size := by omega
      have z5 : ¬ 9223372036854775807 < (txt P).size + (txt D).size + 1 + s.size + 1 := by omega
      have z6 : ¬ 9223372036854775807 ≤ (txt P).size + (txt D).size + 1 + s.size := by omega
      clear hD hs2 hP hs p1 p2 hi
      go_wp2_with fail
      go_region_with (go_at_call 71; ((with_reducible refine (HD.out _).mono ?_); rintro e w1 ⟨rfl, hb⟩; have cf1 : w1.cell? ⟨b, off + k, none⟩ = some (.string s) := (hb.cell (p := ⟨b, off + k, none⟩) hbl).trans cf; have HB1 := Lib.hid hb; clear hb))
      all_goals
        go_wp2_with fail
        go_roundw
        case rel => exact ⟨k + 1, hlt, by go_num, Eq.trans (b := .string (txt P ++ txt D ++ txt [58] ++ s ++ txt [44])) rfl (by rw [HP.out]; congr 1; rw [← data_txt s]; simp only [txt_app, txt_data, List.append_assoc]), bT (HB.out.drew) HB1.out⟩
        case measure => simp [intOf]; omega
    · have e : k = n := by omega
      subst e
      go_wp2_with fail
      go_ret
      exact ⟨rfl, HB.out⟩

set_option maxRecDepth 100000 in
theorem sWirePut_any (a : Option Addr) (n cap : Nat) (F : Nat → ByteArray) (w : World) (h : InS w a n F) (hn : n ≤ 1048576) (hc : n ≤ cap) (hz : sumZ F n ≤ 1048576) :
    Calls Tryd.prog 13 #[.slice a n cap] w (StrPost (wpT F n) w) := by
  have HP := Lib.hid (l3Put_any a n cap F w h hn hc hz)
  clear h
  have p := putL_len F n hz n (Nat.le_refl _)
  have HT : Hid (wpT F n = if n ≤ 40 ∧ (txt (putL F n)).size ≤ 6000 then putL F n else []) := by show wpT F n = _; rw [txt_size]; rfl
  obtain ⟨P, hP⟩ : ∃ P, P = putL F n := ⟨_, rfl⟩
  rw [← hP] at HP p HT
  clear hP
  have p3 : (txt P).size ≤ 24000000 := by omega
  clear p
  by_cases h1 : 40 < n
  · go_enter Tryd.func13, Tryd.ntmps13
    go_wp2_with fail
    with_reducible refine HP.out.mono ?_
    rintro e w1 ⟨rfl, b1⟩
    have B1 := Lib.hid b1
    clear b1
    go_wp2_with fail
    go_ret
    exact ⟨ret_txt (by rw [HT.out, if_neg (by omega)]; rfl), B1.out⟩
  · by_cases h2 : 6000 < (txt P).size
    · go_enter Tryd.func13, Tryd.ntmps13
      go_wp2_with fail
      with_reducible refine HP.out.mono ?_
      rintro e w1 ⟨rfl, b1⟩
      have B1 := Lib.hid b1
      clear b1
      go_wp2_with fail
      go_ret
      exact ⟨ret_txt (by rw [HT.out, if_neg (by omega)]; rfl), B1.out⟩
    · go_enter Tryd.func13, Tryd.ntmps13
      go_wp2_with fail
      with_reducible refine HP.out.mono ?_
      rintro e w1 ⟨rfl, b1⟩
      have B1 := Lib.hid b1
      clear b1
      go_wp2_with fail
      go_ret
      exact ⟨ret_txt (by rw [HT.out, if_pos (by omega)]), B1.out⟩

theorem isBuilder_below {T e : TypeId} {B b : Nat} {bs : List Value} {w w' : World} (h : Lib.IsBuilder T e B b bs w) (hb : Below w.heap.size w w') : Lib.IsBuilder T e B b bs w' := by
  have gen : ∀ p, Lib.BuilderAt T e B b p bs w → Lib.BuilderAt T e B b p bs w' := by
    rintro p ⟨hB, v, hh, hown, hne⟩
    have hlt : b < w.heap.size := Lib.BuilderAt.lt ⟨hB, v, hh, hown, hne⟩
    refine ⟨hB, v, (hb.block b hlt).trans hh, ?_, hne⟩
    exact hown.kept (row := none) ⟨hb.os, hb.tape, hb.output, hb.size, fun k hk _ => hb.block k hk⟩ (by cases hv : v.ownBlock with
      | none => exact Or.inl rfl
      | some x => exact Or.inr (by simp))
  exact h.elim (fun x => Or.inl (gen _ x)) (fun x => Or.inr (gen _ x))
theorem isBuilder_drewN {T e : TypeId} {B b : Nat} {bs : List Value} {w : World} (h : Lib.IsBuilder T e B b bs w) (z : Nat) : Lib.IsBuilder T e B b bs (w.drewN z) := isBuilder_below h (below_drewN (Below.refl _ _) z)

set_option maxRecDepth 100000 in
set_option maxHeartbeats 2000000 in
theorem iWirePut_any (a : Option Addr) (n cap : Nat) (F : Nat → ByteArray) (w : World) (h : InS w a n F) (hn : n ≤ 1048576) (hc : n ≤ cap) (hz : sumZ F n ≤ 1048576) (henv : EnvT w) :
    Calls Tryd.prog 15 #[.slice a n cap] w (StrPost (wpT F n) w) := by
  have hkeep : ∀ w', Below w.heap.size w w' → InS w' a n F := fun w' hb => h.below hb (Nat.le_refl _)
  have HK := Lib.hid hkeep
  have HE := Lib.hid henv
  have HBU := Lib.hid (Lib.fresh_isBuilder 53 5 w)
  have HB := Lib.hid ((Below.refl w.heap.size w).alloc (Nat.le_refl _) (.cells #[.pointer none, .slice none 0 0] 53))
  clear h hkeep henv
  go_enter Tryd.func15, Tryd.ntmps15
  go_wp2_with fail
  obtain ⟨b0, hb0⟩ : ∃ b0, b0 = w.heap.size := ⟨_, rfl⟩
  have HB0 := Lib.hid hb0
  go_loopw [8] (fun i w' => ∃ k : Nat, k ≤ n ∧ i = .int .i64 k ∧ Lib.IsBuilder 53 5 w.heap.size w.heap.size (Lib.byteCells (putL F k)) w' ∧ Below w.heap.size w w') (fun i _ => n - (intOf i).toNat)
  case atStart => exact ⟨0, Nat.zero_le _, rfl, HBU.out, HB.out⟩
  case round =>
    obtain ⟨k, hk, rfl, hbu, hbel⟩ := hrel
    clear HBU HB
    have HBU := Lib.hid hbu
    have HB := Lib.hid hbel
    have hszw := hbel.size
    clear hbu hbel
    obtain ⟨wo, rfl⟩ : ∃ wo, wo = wr := ⟨_, rfl⟩
    by_cases hlt : k < n
    · obtain ⟨b, off, rfl, hi⟩ : ∃ b off, a = some ⟨b, off, none⟩ ∧ StrsAt wo b off n F := by
        rcases HK.out _ HB.out with h0 | h0
        · omega
        · exact h0
      have cf := hi.c k hlt
      have p1 := putL_len F n hz k (by omega)
      have p2 := sumZ_part (F := F) (n := n) (k := k) hk
      have p3 : (txt (putL F k)).size ≤ 24000000 := by omega
      rw [txt_size] at p3
      have f1 : (F k).size ≤ 1048576 := by have := sumZ_each (F := F) hlt; omega
      have d1 := dec_size (F k).size (by omega)
      have HI := Lib.hid (fun (w : World) (h : EnvT w) => (show Calls Tryd.prog 42 #[.int .i64 ((F k).size : Int)] w (StrPost (Lib.decDigits (F k).size) w) by
        have := itoa_any ((F k).size : Int) w (by omega) (by omega) h
        rw [Lib.itoa_nonneg] at this
        exact this))
      have HP : Hid (Lib.byteCells (putL F (k + 1)) = Lib.byteCells (putL F k) ++ Lib.strCells (txt (Lib.decDigits (F k).size) ++ txt [58] ++ F k ++ txt [44])) := by
        show _ = _
        rw [Lib.strCells_eq, ← Lib.byteCells_append]
        congr 1
      obtain ⟨D, hD⟩ : ∃ D, D = Lib.decDigits (F k).size := ⟨_, rfl⟩
      rw [← hD] at d1 HP HI
      have x1 : (k : Int) < (n : Int) := by omega
      clear hD p1 p2 hi
      go_wp2_with fail
      with_reducible refine (HI.out _ (HE.out.below HB.out)).mono ?_
      rintro e w1 ⟨rfl, hb1⟩
      have HBU1 := Lib.hid (isBuilder_below HBU.out hb1)
      have HB1 := Lib.hid (bT HB.out hb1)
      clear hb1
      go_wp2_with fail
      refine (Tryd.Builder_WriteString w.heap.size w.heap.size (Lib.byteCells (putL F k)) (txt D ++ txt [58] ++ F k ++ txt [44]) w1 HBU1.out (by
        rw [Lib.byteCells_length]
        simp only [ByteArray.size_append]
        have e1 : (txt [58]).size = 1 := one_size 58
        have e2 : (txt [44]).size = 1 := one_size 44
        omega) HB1.out.size).mono ?_
      rintro e w2 ⟨rfl, hbu2, hb2⟩
      rw [← HP.out] at hbu2
      have HBU2 := Lib.hid hbu2
      have HB2 := Lib.hid (HB1.out.trans hb2)
      clear hbu2 hb2
      go_wp2_with fail
      go_roundw
      case rel => exact ⟨k + 1, hlt, by go_num, Or.inr HBU2.out, HB2.out⟩
      case measure => simp [intOf]; omega
    · have e : k = n := by omega
      subst e
      have p := putL_len F k hz k (Nat.le_refl _)
      rw [txt_size] at p
      have HT : Hid (wpT F k = if k ≤ 40 ∧ (putL F k).length ≤ 6000 then putL F k else []) := rfl
      have HL := Lib.hid (show Calls Tryd.prog 43 #[.pointer (some ⟨w.heap.size, 0, none⟩)] wo fun e w' => e = .returned (.int .i64 ((putL F k).length : Int)) ∧ wo = w' from by
        refine (Tryd.Builder_Len w.heap.size w.heap.size _ wo HBU.out).mono ?_
        rintro e w' ⟨rfl, rfl⟩
        rw [Lib.byteCells_length]
        exact ⟨rfl, rfl⟩)
      have HS := Lib.hid (Tryd.Builder_String_any w.heap.size w.heap.size (putL F k) wo HBU.out hszw)
      obtain ⟨P, hP⟩ : ∃ P, P = putL F k := ⟨_, rfl⟩
      rw [← hP] at HT HL HS p
      clear hP
      by_cases h1 : 40 < k
      · go_wp2_with fail
        go_ret
        exact ⟨ret_txt (by rw [HT.out, if_neg (by omega)]; rfl), HB.out⟩
      · by_cases h2 : 6000 < P.length
        · go_wp2_with (go_at_call 43; ((with_reducible refine HL.out.mono ?_); rintro e w1 ⟨rfl, rfl⟩))
          go_ret
          exact ⟨ret_txt (by rw [HT.out, if_neg (by omega)]; rfl), HB.out⟩
        · go_wp2_with (first | (go_at_call 43; ((with_reducible refine HL.out.mono ?_); rintro e w1 ⟨rfl, rfl⟩)) | (go_at_call 44; ((with_reducible refine HS.out.mono ?_); rintro e w1 ⟨rfl, hb1⟩; have HB1 := Lib.hid hb1; clear hb1)))
          go_ret
          exact ⟨ret_txt (by rw [HT.out, if_pos (by omega)]; rfl), HB.out.trans HB1.out⟩

end My
end Go.Proofs.YtopijgkmgpkmnaaDoor
