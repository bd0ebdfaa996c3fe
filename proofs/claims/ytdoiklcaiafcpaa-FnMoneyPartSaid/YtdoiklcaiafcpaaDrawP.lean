/- The drawing function of a part of an amount. -/
import Derived.Test.YtdoiklcaiafcpaaDrawA
import Derived.Test.YtdoiklcaiafcpaaReg
import Derived.OwnWalk
namespace Go.Proofs.Ytdoiklcaiafcpaa
open Go.RowKit Go.Deep
set_option linter.unusedVariables false
namespace My

/-- What a slot holds while a region draws. -/
inductive Fact where
  | any
  | ptr (R : Nat)
  | int (lo hi : Int)
  | row (R n : Nat) (lo hi : Int)
  | cell (R : Nat) (lo hi : Int)
def Fact.holds : Fact → Value → World → Prop
  | .any, _, _ => True
  | .ptr R, v, _ => v = .pointer (some ⟨R, 0, none⟩)
  | .int lo hi, v, _ => IntIn lo hi v
  | .row R n lo hi, v, w => ∃ g vs t fr, v = .slice (some ⟨g, 0, none⟩) n n ∧ g ≠ R ∧ w.heap[g]? = some (.cells vs t fr) ∧ vs.size = n ∧ ∀ x, x ∈ vs → IntIn lo hi x
  | .cell R lo hi, v, w => ∃ g j x, v = .pointer (some ⟨g, j, none⟩) ∧ g ≠ R ∧ w.cell? ⟨g, j, none⟩ = some (.int .i64 x) ∧ lo ≤ x ∧ x ≤ hi
def Fact.fits (R : Nat) : Fact → Prop
  | .row R' _ _ _ => R' = R
  | .cell R' _ _ => R' = R
  | _ => True
theorem lt_of_heap {w : World} {g : Nat} {o : Obj} (h : w.heap[g]? = some o) : g < w.heap.size := by
  by_cases hx : g < w.heap.size
  · exact hx
  · rw [Array.getElem?_eq_none (by omega)] at h; cases h
theorem Fact.stable {R : Nat} {F : Fact} {v : Value} {w w' : World} (hf : F.fits R) (h : Only R w w') (k : F.holds v w) : F.holds v w' := by
  cases F with
  | any => trivial
  | ptr R' => exact k
  | int lo hi => exact k
  | row R' n lo hi =>
    obtain rfl : R' = R := hf
    obtain ⟨g, vs, t, fr, rfl, hg, hh, hn, hv⟩ := k
    exact ⟨g, vs, t, fr, rfl, hg, (h.block g (lt_of_heap hh) (by simpa using hg)).trans hh, hn, hv⟩
  | cell R' lo hi =>
    obtain rfl : R' = R := hf
    obtain ⟨g, j, x, rfl, hg, hc, hx⟩ := k
    exact ⟨g, j, x, rfl, hg, (World.cell?_of_block (w := w) (h.block g (World.block_lt_of_cell? w _ hc) (by simpa using hg))).trans hc, hx⟩

theorem row_cell {w : World} {g n : Nat} {vs : Array Value} {t : TypeId} {fr : Nat × Nat} {P : Value → Prop} (hh : w.heap[g]? = some (.cells vs t fr)) (hn : vs.size = n) (hv : ∀ x, x ∈ vs → P x) {i : Int} (h0 : 0 ≤ i) (h1 : i < n) :
    ∃ c, w.cell? ⟨g, i.toNat, none⟩ = some c ∧ P c := by
  have hlt : i.toNat < vs.size := by omega
  exact ⟨vs[i.toNat], by simp [World.cell?, hh, hlt], hv _ (Array.getElem_mem hlt)⟩

def ThreePost (w : World) (e : Ending) (w' : World) : Prop :=
  ∃ x y z : Int, e = .returned (.tuple #[.int .i64 x, .int .i64 y, .int .i64 z]) ∧ (-1000000000000 ≤ x ∧ x ≤ 1000000000000) ∧ (-1 ≤ y ∧ y ≤ 1000001) ∧ (0 ≤ z ∧ z ≤ 1000000) ∧ Below w.heap.size w w'

def partFact (R : Nat) : Nat → Fact
  | 8 | 10 | 12 | 15 | 21 | 25 => .ptr R
  | 9 | 2 => .int (-1000000000000) 1000000000000
  | 11 => .int 0 19
  | 13 => .int 0 9999
  | 14 => .row R 5 (-1) 1000001
  | 16 | 26 => .int 0 11
  | 17 | 27 => .int 0 55
  | 18 | 28 => .int 0 4
  | 19 => .cell R (-1) 1000001
  | 20 | 3 => .int (-1) 1000001
  | 22 => .int 0 19
  | 23 => .int 1 20
  | 24 => .row R 5 0 1000000
  | 29 => .cell R 0 1000000
  | 30 | 4 => .int 0 1000000
  | _ => .any

set_option maxRecDepth 100000 in
set_option maxHeartbeats 4000000 in
theorem DrawMoneyPart_any (a : Option Addr) (len cap : Nat) (wB : World) (h : BytesIn wB a len cap) :
    Calls Try.prog 24 #[.slice a len cap] wB (ThreePost wB) := by
  go_enter Try.func24, Try.ntmps24
  go_wp2_with fail
  refine (l1Open_any _ _ _ _ h).mono ?_
  rintro e w ⟨rfl, hi, hb⟩
  have HI := Lib.hid hi
  have HB := Lib.hid hb
  obtain ⟨R, hR⟩ : ∃ R, R = wB.heap.size := ⟨_, rfl⟩
  rw [← hR] at HI ⊢
  have HRR := Lib.hid hR
  clear hi hb hR
  go_wp2_with fail
  refine wp_region_inv (by kernel_rfl) [8, 9, 10, 11, 12, 13, 14, 15, 16, 17, 18, 19, 20, 21, 22, 23, 24, 25, 26, 27, 28, 29, 30, 2, 3, 4]
    (fun d => (partFact R d).holds) (fun n w' => RdInv w' R (8 * n)) (Only R) (Only.refl R) (fun _ _ _ => Only.trans) ?stable (by kernel_rfl) HI.out.drew ?step ?fin
  case stable => exact fun d v w w' hS hG => Fact.stable (by unfold partFact; split <;> first | trivial | rfl) hS hG
  case step =>
    refine ⟨?_, ?_, ?_, ?_, ?_, ?_, ?_, ?_, ?_, ?_, ?_, ?_, ?_, ?_, ?_, ?_, ?_, ?_, ?_, ?_, ?_, ?_, ?_, ?_, ?_, ?_, trivial⟩
    all_goals intro n f w1 hn hI hS haf
    all_goals have hn : n < 26 := hn
    · simp [frameOf, goFrame]; go_simp; exact ⟨hI.mono (by omega), Only.refl _ _, rfl⟩
    · obtain ⟨h, _⟩ := haf; have h : f 8 = .pointer (some ⟨R, 0, none⟩) := h; simp [frameOf, goFrame, h]; go_simp; refine (amount_at hI (by omega)).mono ?_; rintro e w2 ⟨x, rfl, x0, x1, hi, ho⟩; exact ⟨hi.mono (by omega), ho, x, rfl, x0, x1⟩
    · simp [frameOf, goFrame]; go_simp; exact ⟨hI.mono (by omega), Only.refl _ _, rfl⟩
    · obtain ⟨h, _⟩ := haf; have h : f 10 = .pointer (some ⟨R, 0, none⟩) := h; simp [frameOf, goFrame, h]; go_simp; refine (pick_at hI (by omega) (by omega) (by omega)).mono ?_; rintro e w2 ⟨x, rfl, x0, x1, hi, ho⟩; exact ⟨hi.mono (by omega), ho, x, rfl, x0, (by omega)⟩
    · simp [frameOf, goFrame]; go_simp; exact ⟨hI.mono (by omega), Only.refl _ _, rfl⟩
    · obtain ⟨h, _⟩ := haf; have h : f 12 = .pointer (some ⟨R, 0, none⟩) := h; simp [frameOf, goFrame, h]; go_simp; refine (pick_at hI (by omega) (by omega) (by omega)).mono ?_; rintro e w2 ⟨x, rfl, x0, x1, hi, ho⟩; exact ⟨hi.mono (by omega), ho, x, rfl, x0, (by omega)⟩
    · obtain ⟨h, h', _⟩ := haf; obtain ⟨x, hx, x0, x1⟩ : IntIn 0 19 (f 11) := h; obtain ⟨y, hy, y0, y1⟩ : IntIn 0 9999 (f 13) := h'; have hlt := hI.lt; simp [frameOf, goFrame, hx, hy]; go_simp; refine ⟨hI.alloc.mono (by omega), (Only.refl _ _).alloc _, w1.heap.size, _, _, _, rfl, (by omega), blk_alloc_new _ _, rfl, ?_⟩; intro v hv; simp at hv; rcases hv with rfl | rfl | rfl | rfl | rfl <;> exact ⟨_, rfl, (by omega), (by omega)⟩
    · simp [frameOf, goFrame]; go_simp; exact ⟨hI.mono (by omega), Only.refl _ _, rfl⟩
    · obtain ⟨h, _⟩ := haf; have h : f 15 = .pointer (some ⟨R, 0, none⟩) := h; simp [frameOf, goFrame, h]; go_simp; refine (pick_at hI (by omega) (by omega) (by omega)).mono ?_; rintro e w2 ⟨x, rfl, x0, x1, hi, ho⟩; exact ⟨hi.mono (by omega), ho, x, rfl, x0, (by omega)⟩
    · obtain ⟨h, _⟩ := haf; obtain ⟨x, hx, x0, x1⟩ : IntIn 0 11 (f 16) := h; have e1 : IntKind.i64.wrap (x * 5) = x * 5 := IntWalk.i64_in _ (by omega); simp [frameOf, goFrame, hx]; go_simp; exact ⟨hI.mono (by omega), Only.refl _ _, _, rfl, (by omega), (by omega)⟩
    · obtain ⟨h, _⟩ := haf; obtain ⟨x, hx, x0, x1⟩ : IntIn 0 55 (f 17) := h; have e0 : x.tdiv 12 = x / 12 := Int.tdiv_eq_ediv_of_nonneg x0; have e1 : IntKind.i64.wrap (x / 12) = x / 12 := IntWalk.i64_in _ (by omega); simp [frameOf, goFrame, hx]; go_simp; exact ⟨hI.mono (by omega), Only.refl _ _, _, rfl, (by omega), (by omega)⟩
    · obtain ⟨h, h', _⟩ := haf; obtain ⟨g, vs, t, fr, hg, hgR, hh, hn5, hv⟩ : (Fact.row R 5 (-1) 1000001).holds (f 14) w1 := h; obtain ⟨x, hx, x0, x1⟩ : IntIn 0 4 (f 18) := h'; have x5 : x < 5 := (by omega); simp [frameOf, goFrame, hx, hg]; go_simp; obtain ⟨c, hc, hci⟩ := row_cell hh hn5 hv x0 (by omega); obtain ⟨y, rfl, y0, y1⟩ := hci; exact ⟨hI.mono (by omega), Only.refl _ _, g, x.toNat, y, rfl, hgR, hc, y0, y1⟩
    · obtain ⟨h, _⟩ := haf; obtain ⟨g, j, y, hp, hgR, hc, y0, y1⟩ : (Fact.cell R (-1) 1000001).holds (f 19) w1 := h; simp [frameOf, goFrame, hp]; go_simp; exact ⟨hI.mono (by omega), Only.refl _ _, y, rfl, y0, y1⟩
    · simp [frameOf, goFrame]; go_simp; exact ⟨hI.mono (by omega), Only.refl _ _, rfl⟩
    · obtain ⟨h, _⟩ := haf; have h : f 21 = .pointer (some ⟨R, 0, none⟩) := h; simp [frameOf, goFrame, h]; go_simp; refine (pick_at hI (by omega) (by omega) (by omega)).mono ?_; rintro e w2 ⟨x, rfl, x0, x1, hi, ho⟩; exact ⟨hi.mono (by omega), ho, x, rfl, x0, (by omega)⟩
    · obtain ⟨h, _⟩ := haf; obtain ⟨x, hx, x0, x1⟩ : IntIn 0 19 (f 22) := h; have e1 : IntKind.i64.wrap (1 + x) = 1 + x := IntWalk.i64_in _ (by omega); simp [frameOf, goFrame, hx]; go_simp; exact ⟨hI.mono (by omega), Only.refl _ _, _, rfl, (by omega), (by omega)⟩
    · obtain ⟨h, _⟩ := haf; obtain ⟨x, hx, x0, x1⟩ : IntIn 1 20 (f 23) := h; have hlt := hI.lt; simp [frameOf, goFrame, hx]; go_simp; refine ⟨hI.alloc.mono (by omega), (Only.refl _ _).alloc _, w1.heap.size, _, _, _, rfl, (by omega), blk_alloc_new _ _, rfl, ?_⟩; intro v hv; simp at hv; rcases hv with rfl | rfl | rfl | rfl | rfl <;> exact ⟨_, rfl, (by omega), (by omega)⟩
    · simp [frameOf, goFrame]; go_simp; exact ⟨hI.mono (by omega), Only.refl _ _, rfl⟩
    · obtain ⟨h, _⟩ := haf; have h : f 25 = .pointer (some ⟨R, 0, none⟩) := h; simp [frameOf, goFrame, h]; go_simp; refine (pick_at hI (by omega) (by omega) (by omega)).mono ?_; rintro e w2 ⟨x, rfl, x0, x1, hi, ho⟩; exact ⟨hi.mono (by omega), ho, x, rfl, x0, (by omega)⟩
    · obtain ⟨h, _⟩ := haf; obtain ⟨x, hx, x0, x1⟩ : IntIn 0 11 (f 26) := h; have e1 : IntKind.i64.wrap (x * 5) = x * 5 := IntWalk.i64_in _ (by omega); simp [frameOf, goFrame, hx]; go_simp; exact ⟨hI.mono (by omega), Only.refl _ _, _, rfl, (by omega), (by omega)⟩
    · obtain ⟨h, _⟩ := haf; obtain ⟨x, hx, x0, x1⟩ : IntIn 0 55 (f 27) := h; have e0 : x.tdiv 12 = x / 12 := Int.tdiv_eq_ediv_of_nonneg x0; have e1 : IntKind.i64.wrap (x / 12) = x / 12 := IntWalk.i64_in _ (by omega); simp [frameOf, goFrame, hx]; go_simp; exact ⟨hI.mono (by omega), Only.refl _ _, _, rfl, (by omega), (by omega)⟩
    · obtain ⟨h, h', _⟩ := haf; obtain ⟨g, vs, t, fr, hg, hgR, hh, hn5, hv⟩ : (Fact.row R 5 0 1000000).holds (f 24) w1 := h; obtain ⟨x, hx, x0, x1⟩ : IntIn 0 4 (f 28) := h'; have x5 : x < 5 := (by omega); simp [frameOf, goFrame, hx, hg]; go_simp; obtain ⟨c, hc, hci⟩ := row_cell hh hn5 hv x0 (by omega); obtain ⟨y, rfl, y0, y1⟩ := hci; exact ⟨hI.mono (by omega), Only.refl _ _, g, x.toNat, y, rfl, hgR, hc, y0, y1⟩
    · obtain ⟨h, _⟩ := haf; obtain ⟨g, j, y, hp, hgR, hc, y0, y1⟩ : (Fact.cell R 0 1000000).holds (f 29) w1 := h; simp [frameOf, goFrame, hp]; go_simp; exact ⟨hI.mono (by omega), Only.refl _ _, y, rfl, y0, y1⟩
    · obtain ⟨h, _⟩ := haf; obtain ⟨x, hx, x0, x1⟩ : IntIn (-1000000000000) 1000000000000 (f 9) := h; simp [frameOf, goFrame, hx]; go_simp; exact ⟨hI.mono (by omega), Only.refl _ _, _, rfl, (by omega), (by omega)⟩
    · obtain ⟨h, _⟩ := haf; obtain ⟨x, hx, x0, x1⟩ : IntIn (-1) 1000001 (f 20) := h; simp [frameOf, goFrame, hx]; go_simp; exact ⟨hI.mono (by omega), Only.refl _ _, _, rfl, (by omega), (by omega)⟩
    · obtain ⟨h, _⟩ := haf; obtain ⟨x, hx, x0, x1⟩ : IntIn 0 1000000 (f 30) := h; simp [frameOf, goFrame, hx]; go_simp; exact ⟨hI.mono (by omega), Only.refl _ _, _, rfl, (by omega), (by omega)⟩
  case fin =>
    intro n f w1 hn hI hS hG
    obtain ⟨x, hx, x0, x1⟩ : IntIn (-1000000000000) 1000000000000 (f 2) := hG 23 _ _ rfl rfl
    obtain ⟨y, hy, y0, y1⟩ : IntIn (-1) 1000001 (f 3) := hG 24 _ _ rfl rfl
    obtain ⟨z, hz, z0, z1⟩ : IntIn 0 1000000 (f 4) := hG 25 _ _ rfl rfl
    have HS := Lib.hid hS
    clear hG hS
    simp only [frameOf, goFrame]
    simp [hx, hy, hz]
    go_wp2_with fail
    go_ret3
    exact ⟨x, y, z, rfl, ⟨x0, x1⟩, ⟨y0, y1⟩, ⟨z0, z1⟩, drawn_below HRR.out HB.out ((Only.refl _ _).drew.trans HS.out)⟩

end My
end Go.Proofs.Ytdoiklcaiafcpaa
