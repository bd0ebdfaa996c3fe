/- The functions that read drawn rules: they end, without a panic. -/
import Derived.Test.YtjmlekhgnbbjoaaGreatDoorRulP
import Derived.BigQuiet
namespace Go.Proofs.YtjmlekhgnbbjoaaGreatDoor
open Go.RowKit Go.Deep
set_option linter.unusedVariables false
namespace My

def BoolPost (w : World) (e : Ending) (w' : World) : Prop := (∃ b, e = .returned (.bool b)) ∧ Below w.heap.size w w'
theorem l4Kids_lit (op n : Int) (w : World) (h1 : 1 ≤ op) (h2 : op ≤ 10) (hn : (kidsN op : Int) = n) :
    Calls Tryz.prog 94 #[.int .i64 op] w fun e w' => e = .returned (.int .i64 n) ∧ w = w' := by
  rw [← hn]; exact l4Kids_any op w h1 h2
theorem l4Marks_in {S : Nat → Option BK} {w : World} (h : RowsIn S w) {g n c : Nat} (hg : S g = some (.marks n)) (hn : n ≤ 4) (hc : n ≤ c) :
    Calls Tryz.prog 103 #[.slice (some ⟨g, 0, none⟩) n c] w (BoolPost w) := by
  obtain ⟨-, ms, hl, hm, -⟩ := h g _ hg
  subst hl
  refine (l4Marks_some g 0 c ms w hm (by omega) hc).mono ?_
  rintro e w' ⟨rfl, hb⟩
  exact ⟨⟨_, rfl⟩, hb⟩

set_option maxRecDepth 100000 in
set_option maxHeartbeats 4000000 in
theorem l4Plain_any {S : Nat → Option BK} {d : Nat} {op num : Int} {s : ByteArray} {kids marks : Value} (w : World) (h : RuleC S d op num s kids marks) (hr : RowsIn S w) :
    Calls Tryz.prog 102 #[.agg #[.int .i64 op, .int .i64 num, .string s, kids, marks]] w (BoolPost w) := by
  have HB := Lib.hid (Below.refl w.heap.size w)
  have HR := Lib.hid hr
  clear hr
  rcases h with ⟨rfl, hnum, rfl, rfl, rfl⟩ | ⟨rfl, rfl, hs, rfl, rfl⟩ | ⟨h1, h2, rfl, rfl, ⟨g, c, q, rfl, hc, hs, hq⟩, hk⟩
  · go_enter Tryz.func102, Tryz.ntmps102
    go_wp2_with fail
    go_quiet ((go_at_call 94; exact quietS (l4Kids_lit _ 0 _ (by omega) (by omega) (by decide))))
    go_wp2_with (go_at_call 31; ((with_reducible refine (l1In_any _ _ _ _).mono ?_); rintro e w' ⟨rfl, rfl⟩))
    go_ret
    exact ⟨⟨_, rfl⟩, (by repeat (first | exact HB.out | exact Below.refl _ _ | apply below_drewN | apply Below.drew | refine Below.alloc ?_ (by have := HB.out.size; first | omega | (simp; done) | (simp; omega)) _))⟩
  · have hs2 : s.size ≤ maxLen := by unfold maxLen; omega
    clear hs
    go_enter Tryz.func102, Tryz.ntmps102
    go_wp2_with fail
    go_quiet ((go_at_call 94; exact quietS (l4Kids_lit _ 0 _ (by omega) (by omega) (by decide))))
    go_wp2_with (go_at_call 42; ((with_reducible refine (sNameOk_any _ _ hs2).mono ?_); rintro e w' ⟨rfl, rfl⟩))
    go_ret
    exact ⟨⟨_, rfl⟩, (by repeat (first | exact HB.out | exact Below.refl _ _ | apply below_drewN | apply Below.drew | refine Below.alloc ?_ (by have := HB.out.size; first | omega | (simp; done) | (simp; omega)) _))⟩
  · obtain ⟨n, hn⟩ : ∃ n, n = kidsN op := ⟨_, rfl⟩
    rw [← hn] at hc hs ⊢
    clear hs
    have : op = 3 ∨ op = 4 ∨ op = 5 ∨ op = 6 ∨ op = 7 ∨ op = 8 ∨ op = 9 ∨ op = 10 := by omega
    rcases this with rfl | rfl | rfl | rfl | rfl | rfl | rfl | rfl
    all_goals
      simp [kidsN] at hn
      subst hn
      rcases hk with ⟨hk, rfl⟩ | ⟨hk, g2, n2, c2, rfl, hn1, hn2, hn3, hn4⟩
      all_goals first
        | (exact absurd hk (by decide))
        | (have HM := Lib.hid (fun (w' : World) (hb : Below w.heap.size w w') => l4Marks_in (HR.out.below hb) hn4 hn2 hn3)
           clear hn4
           go_enter Tryz.func102, Tryz.ntmps102
           go_wp2_with fail
           go_quiet ((go_at_call 94; exact quietS (l4Kids_lit _ 1 _ (by omega) (by omega) (by decide))))
           go_wp2_with (go_at_call 103; ((with_reducible refine (HM.out _ (by repeat (first | exact HB.out | exact Below.refl _ _ | apply below_drewN | apply Below.drew | refine Below.alloc ?_ (by have := HB.out.size; first | omega | (simp; done) | (simp; omega)) _))).mono ?_); rintro e wD ⟨⟨b, rfl⟩, hbb⟩; have hbc := bT (w := w) (by repeat (first | exact HB.out | exact Below.refl _ _ | apply below_drewN | apply Below.drew | refine Below.alloc ?_ (by have := HB.out.size; first | omega | (simp; done) | (simp; omega)) _)) hbb; clear hbb HB; have HB := Lib.hid hbc; clear hbc))
           go_ret
           exact ⟨⟨_, rfl⟩, (by repeat (first | exact HB.out | exact Below.refl _ _ | apply below_drewN | apply Below.drew | refine Below.alloc ?_ (by have := HB.out.size; first | omega | (simp; done) | (simp; omega)) _))⟩)
        | (go_enter Tryz.func102, Tryz.ntmps102
           go_wp2_with fail
           go_quiet (first | ((go_at_call 94; exact quietS (l4Kids_lit _ 2 _ (by omega) (by omega) (by decide)))) | ((go_at_call 94; exact quietS (l4Kids_lit _ 3 _ (by omega) (by omega) (by decide)))) | ((go_at_call 94; exact quietS (l4Kids_lit _ 4 _ (by omega) (by omega) (by decide)))))
           go_wp2_with fail
           go_ret
           exact ⟨⟨_, rfl⟩, (by repeat (first | exact HB.out | exact Below.refl _ _ | apply below_drewN | apply Below.drew | refine Below.alloc ?_ (by have := HB.out.size; first | omega | (simp; done) | (simp; omega)) _))⟩)

end My
end Go.Proofs.YtjmlekhgnbbjoaaGreatDoor
