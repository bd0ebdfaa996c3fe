/- The reference's decimals. -/
import Derived.Test.YtjmlekhgnbbjoaaGreatDoorDrawA
import Derived.Test.YtjmlekhgnbbjoaaGreatDoorShelfA
import Derived.Deep.RegionHeld3
import Derived.Laws.IdiomStrings
namespace Go.Proofs.YtjmlekhgnbbjoaaGreatDoor
open Go.RowKit Go.Deep
set_option linter.unusedVariables false
namespace My

/-- A text of bytes. -/
def txt (l : List UInt8) : ByteArray := ⟨l.toArray⟩
theorem txt_app (a b : List UInt8) : txt a ++ txt b = txt (a ++ b) := by
  apply ByteArray.ext
  simp [txt]
theorem txt_data (a : List UInt8) : (txt a).data.toList = a := by simp [txt]
theorem txt_size (a : List UInt8) : (txt a).size = a.length := by simp [txt, ByteArray.size]
theorem data_txt (s : ByteArray) : txt s.data.toList = s := by
  apply ByteArray.ext
  simp [txt]
theorem ret_txt {a b : ByteArray} (h : a = b) : Ending.returned (.string a) = .returned (.string b) := by rw [h]

theorem conv_one {w : World} {g : Nat} {c : Int} {b : UInt8} (hb : c = b.toNat) (h : w.cell? ⟨g, 0, none⟩ = some (.int .u8 c)) :
    (convert 22 9 (.slice (some ⟨g, 0, none⟩) 1 1)).run Tryz.prog w = .ok (.string (txt [b])) w := by
  refine run_convert_bytes_back (P := Tryz.prog) w 22 9 5 ⟨g, 0, none⟩ 1 [b] Tryz.underlying22 Tryz.underlying5 Tryz.underlying9 ?_
  intro j hj
  have hj : j = 0 := by simpa using hj
  subst hj
  rw [show (⟨g, 0, none⟩ : Addr).add 0 = ⟨g, 0, none⟩ from rfl, h, hb]
  rfl

def StrPost (l : List UInt8) (w : World) (e : Ending) (w' : World) : Prop := e = .returned (.string (txt l)) ∧ Below w.heap.size w w'
theorem bcell {W w1 : World} (hb : Below W.heap.size W w1) : (∀ b o, b < W.heap.size → w1.cell? ⟨b, o, none⟩ = W.cell? ⟨b, o, none⟩) ∧ (∀ b o, b < W.heap.size → w1.frozen? ⟨b, o, none⟩ = W.frozen? ⟨b, o, none⟩) :=
  ⟨fun b o h => hb.cell (p := ⟨b, o, none⟩) h, fun b o h => hb.frozen (p := ⟨b, o, none⟩) h⟩

theorem nDigits_le : ∀ (k u : Nat), u < 10 ^ (k + 1) → Lib.nDigits u ≤ k + 1
  | 0, u, h => by rw [Lib.nDigits_small (by simpa using h)]; exact Nat.le_refl _
  | k + 1, u, h => by
    by_cases c : u < 10
    · rw [Lib.nDigits_small c]; omega
    · rw [Lib.nDigits_big c]
      have := nDigits_le k (u / 10) (by rw [Nat.pow_succ] at h; omega)
      omega
theorem dec_size (u : Nat) (h : u ≤ 9223372036854775807) : (txt (Lib.decDigits u)).size ≤ 19 := by
  rw [txt_size, Lib.decDigits_length]
  exact nDigits_le 18 u (by omega)
theorem one_size (b : UInt8) : (txt [b]).size = 1 := by rw [txt_size]; rfl

set_option maxRecDepth 100000 in
set_option maxHeartbeats 1000000 in
theorem l1Dec_small (u : Nat) (w : World) (h : u < 10) : Calls Tryz.prog 43 #[.int .i64 u] w (StrPost (Lib.decDigits u) w) := by
  obtain ⟨b, hb⟩ : ∃ b, b = UInt8.ofNat (48 + u) := ⟨_, rfl⟩
  have HD : Hid (Lib.decDigits u = [b]) := by show Lib.decDigits u = [b]; rw [hb]; exact Lib.decDigits_one h
  have hk := fun (w' : World) (g : Nat) (hc : w'.cell? ⟨g, 0, none⟩ = some (.int .u8 (48 + (u : Int)))) => conv_one (b := b) (by rw [hb, UInt8.toNat_ofNat']; omega) hc
  clear hb
  go_enter Tryz.func43, Tryz.ntmps43
  go_wp2_with fail
  go_ret
  exact ⟨ret_txt (by rw [HD.out]), (Below.refl _ _).alloc (Nat.le_refl _) _⟩

set_option maxRecDepth 100000 in
set_option maxHeartbeats 1000000 in
theorem l1Dec_step (u : Nat) (w : World) (h : 10 ≤ u) (h1 : u ≤ 9223372036854775807) (ih : ∀ w, Calls Tryz.prog 43 #[.int .i64 (u / 10 : Nat)] w (StrPost (Lib.decDigits (u / 10)) w)) : Calls Tryz.prog 43 #[.int .i64 u] w (StrPost (Lib.decDigits u) w) := by
  have hdd : Lib.decDigits u = Lib.decDigits (u / 10) ++ [UInt8.ofNat (48 + u % 10)] := by rw [Lib.decDigits, dif_neg (by omega)]
  obtain ⟨d, hd⟩ : ∃ d, d = u / 10 := ⟨_, rfl⟩
  obtain ⟨r, hr⟩ : ∃ r, r = u % 10 := ⟨_, rfl⟩
  obtain ⟨b, hb⟩ : ∃ b, b = UInt8.ofNat (48 + r) := ⟨_, rfl⟩
  rw [← hd] at ih
  rw [← hd, ← hr, ← hb] at hdd
  have HDD := Lib.hid hdd
  have IH := Lib.hid ih
  have r1 : r < 10 := by omega
  have d1 : d ≤ u := by omega
  have e1 : (u : Int).tdiv 10 = (d : Int) := by rw [Int.tdiv_eq_ediv_of_nonneg (by omega)]; omega
  have e3 : (u : Int).tmod 10 = (r : Int) := by rw [Int.tmod_eq_emod_of_nonneg (by omega)]; omega
  have hk := fun (w' : World) (g : Nat) (hc : w'.cell? ⟨g, 0, none⟩ = some (.int .u8 (48 + (r : Int)))) => conv_one (b := b) (by rw [hb, UInt8.toNat_ofNat']; omega) hc
  clear ih hd hr hdd hb
  have z1 := dec_size d (by omega)
  have z2 := one_size b
  have z3 : ¬ 9223372036854775807 < (txt (Lib.decDigits d)).size + (txt [b]).size := by omega
  clear z2
  have e2 : IntKind.i64.wrap (d : Int) = (d : Int) := IntWalk.i64_in _ (by omega)
  have e4 : IntKind.i64.wrap (r : Int) = (r : Int) := IntWalk.i64_in _ (by omega)
  have e5 : IntKind.i64.wrap (48 + (r : Int)) = 48 + (r : Int) := IntWalk.i64_in _ (by omega)
  have e6 : IntKind.u8.wrap (48 + (r : Int)) = 48 + (r : Int) := IntWalk.u8_in _ (by clear e2 e4 e5; omega)
  go_enter Tryz.func43, Tryz.ntmps43
  go_wp2_with fail
  go_region_with (go_at_call 43; ((with_reducible refine (IH.out _).mono ?_); rintro e w1 ⟨rfl, hb⟩; obtain ⟨hc, hf⟩ := bcell hb; have HB := Lib.hid hb; clear hb))
  all_goals
    go_wp2_with fail
    go_ret
    refine ⟨Eq.trans (b := Ending.returned (.string (txt (Lib.decDigits d) ++ txt [b]))) rfl (ret_txt (by rw [HDD.out, txt_app])), ?_⟩
    first
      | exact bT (((Below.refl w.heap.size w).alloc (Nat.le_refl _) _).drew) HB.out
      | exact (bT (w1 := w.drew) ((Below.refl w.heap.size w).drew) HB.out).alloc (by have := HB.out.size; exact this) _

theorem l1Dec_nat : ∀ (u : Nat) (w : World), u ≤ 9223372036854775807 → Calls Tryz.prog 43 #[.int .i64 u] w (StrPost (Lib.decDigits u) w) := by
  intro u
  induction u using Nat.strongRecOn with
  | _ u ih =>
    intro w h
    by_cases c : u < 10
    · exact l1Dec_small u w c
    · exact l1Dec_step u w (by omega) h (fun w' => ih (u / 10) (by omega) w' (by omega))

set_option maxRecDepth 100000 in
theorem l1Dec_any (n : Int) (w : World) (h0 : -9223372036854775807 ≤ n) (h1 : n ≤ 9223372036854775807) : Calls Tryz.prog 43 #[.int .i64 n] w (StrPost (Lib.itoa n) w) := by
  by_cases c : n < 0
  · obtain ⟨u, hu⟩ : ∃ u : Nat, n = -(u : Int) := ⟨n.natAbs, by omega⟩
    subst hu
    have hI := Lib.hid (Lib.itoa_neg u (by omega))
    have hK := Lib.hid (fun w' => l1Dec_nat u w' (by omega))
    have z1 := dec_size u (by omega)
    have z2 : (txt [45]).size = 1 := one_size 45
    have z3 : ¬ 9223372036854775807 < (txt [45]).size + (txt (Lib.decDigits u)).size := by omega
    have z4 : ¬ 9223372036854775807 < 1 + (txt (Lib.decDigits u)).size := by omega
    clear z2
    go_enter Tryz.func43, Tryz.ntmps43
    go_wp2_with (go_at_call 43; ((with_reducible refine (hK.out _).mono ?_); rintro e w1 ⟨rfl, hb⟩; have HB := Lib.hid hb; clear hb))
    go_ret
    exact ⟨Eq.trans (b := Ending.returned (.string (txt [45] ++ txt (Lib.decDigits u)))) rfl (ret_txt (by rw [hI.out, txt_app]; rfl)), HB.out⟩
  · obtain ⟨u, hu⟩ : ∃ u : Nat, n = (u : Int) := ⟨n.toNat, by omega⟩
    subst hu
    rw [Lib.itoa_nonneg]
    exact l1Dec_nat u w (by omega)

end My
end Go.Proofs.YtjmlekhgnbbjoaaGreatDoor
