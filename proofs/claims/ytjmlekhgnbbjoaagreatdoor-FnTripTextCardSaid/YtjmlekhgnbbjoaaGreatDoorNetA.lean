/- The drawing function of nets, one in twelve spoilt. -/
import Derived.Test.YtjmlekhgnbbjoaaGreatDoorNetQ
import Derived.Test.YtjmlekhgnbbjoaaGreatDoorNet
import Derived.Test.YtjmlekhgnbbjoaaGreatDoorLegS
namespace Go.Proofs.YtjmlekhgnbbjoaaGreatDoor
open Go.RowKit Go.Deep
set_option linter.unusedVariables false
namespace My

/-- What l14AnyNet leaves. -/
def AnyPost (R K : Nat) (a : Option Addr) (len cap : Nat) (w : World) (e : Ending) (w' : World) : Prop :=
  ∃ (g n c : Nat), e = .returned (.slice (some ⟨g, 0, none⟩) n c) ∧ 1 ≤ n ∧ n ≤ 6 ∧ n ≤ c ∧ w.heap.size ≤ g ∧ NetIn w' g n ∧ DS w noS R K a len cap [] w'

set_option maxRecDepth 100000 in
set_option maxHeartbeats 4000000 in
theorem l14AnyNet_any {R K : Nat} {a : Option Addr} {len cap : Nat} {w : World} (hK : K ≤ 1000) (h : DS w noS R K a len cap [] w) :
    Calls Tryz.prog 39 #[.pointer (some ⟨R, 0, none⟩)] w (AnyPost R (K + 1100) a len cap w) := by
  have hR := h.lt
  go_enter Tryz.func39, Tryz.ntmps39
  go_wp2_with fail
  refine (l14Net_any hK h).mono ?_
  rintro e w1 ⟨g, n, c, xs, rfl, hn1, hn6, hns⟩
  have HN := Lib.hid hns
  have HD := Lib.hid hns.ds
  clear hns h
  go_wp2_with fail
  ((with_reducible refine (pick_ds (by repeat (first | exact HD.out | apply DS.alloc | apply DS.drewN | apply DS.drew)) (by omega) (by omega) (by omega)).mono ?_); rintro e wx ⟨x, rfl, x0, x1, hds, hon⟩; have Hx := Lib.hid hon; clear HD; have HD := Lib.hid hds; clear hds hon)
  have HN2 := Lib.hid (HN.out.go HD.out Hx.out)
  clear HN Hx
  have HN := HN2
  clear HN2
  obtain ⟨hgw, hgl⟩ := HN.out.base
  by_cases hx : x = 0
  · subst hx
    go_wp2_with fail
    ((with_reducible refine (pick_ds (by repeat (first | exact HD.out | apply DS.alloc | apply DS.drewN | apply DS.drew)) (by omega) (by omega) (by omega)).mono ?_); rintro e wy ⟨y, rfl, y0, y1, hds, hon⟩; have Hy := Lib.hid hon; clear HD; have HD := Lib.hid hds; clear hds hon)
    obtain ⟨k, rfl⟩ : ∃ k : Nat, y = k := ⟨y.toNat, by omega⟩
    have hk : k < n := by omega
    have HN2 := Lib.hid (HN.out.go HD.out Hy.out)
    clear HN Hy
    have HN := HN2
    clear HN2
    obtain ⟨nm, fr, tt, dp, ar, cp, g1, c1, g2, c2, nb, g3, c3, hv, h0, h1, h2, h3, h4, h5, h6, h7, h8, h9⟩ := HN.out.legCells hk
    have HV := Lib.hid hv
    have q1 : (0 : Int) ≤ (k : Int) := by omega
    have q2 : (k : Int) < (n : Int) := by omega
    clear hv
    go_wp2_with fail
    obtain ⟨cur, hb, hcs, hnc⟩ := HN.out.block
    refine (l14SpoilLeg_any (by omega) HD.out.here HV.out).mono ?_
    rintro e w2 ⟨v', rfl, ⟨nm', fr', tt', dp', ar', cp', a6, n6, z6, a7, n7, z7, a8, n8, z8, a9, n9, z9, rfl, hs⟩, hds⟩
    have hblk : w2.heap[g]? = wy.heap[g]? := hds.on.block g (heap_lt hb) (by simp; omega)
    have HD2 := Lib.hid (HD.out.call hds (More.refl _ _))
    have HNI := Lib.hid (HN.out.netIn.keep hblk)
    have HBB := Lib.hid (hblk.trans hb)
    have p0 := (World.cell?_of_block (w := wy) hblk).trans h0
    have f0 := frozen_of (hblk.trans hb) (k * 10 + 0)
    have p1 := (World.cell?_of_block (w := wy) hblk).trans h1
    have f1 := frozen_of (hblk.trans hb) (k * 10 + 1)
    have p2 := (World.cell?_of_block (w := wy) hblk).trans h2
    have f2 := frozen_of (hblk.trans hb) (k * 10 + 2)
    have p3 := (World.cell?_of_block (w := wy) hblk).trans h3
    have f3 := frozen_of (hblk.trans hb) (k * 10 + 3)
    have p4 := (World.cell?_of_block (w := wy) hblk).trans h4
    have f4 := frozen_of (hblk.trans hb) (k * 10 + 4)
    have p5 := (World.cell?_of_block (w := wy) hblk).trans h5
    have f5 := frozen_of (hblk.trans hb) (k * 10 + 5)
    have p6 := (World.cell?_of_block (w := wy) hblk).trans h6
    have f6 := frozen_of (hblk.trans hb) (k * 10 + 6)
    have p7 := (World.cell?_of_block (w := wy) hblk).trans h7
    have f7 := frozen_of (hblk.trans hb) (k * 10 + 7)
    have p8 := (World.cell?_of_block (w := wy) hblk).trans h8
    have f8 := frozen_of (hblk.trans hb) (k * 10 + 8)
    have p9 := (World.cell?_of_block (w := wy) hblk).trans h9
    have f9 := frozen_of (hblk.trans hb) (k * 10 + 9)
    simp only [Nat.add_zero] at f0
    clear hds hb h0 h1 h2 h3 h4 h5 h6 h7 h8 h9 hblk HN HV HD
    go_wp2_with fail
    go_ret
    exact ⟨g, n, c, rfl, hn1, hn6, hnc, hgw, HNI.out.store HBB.out hcs hk ⟨_, _, _, _, _, _, _, _, _, _, _, _, _, _, _, _, _, _, rfl, hs⟩, (leg_dso HD2.out hgw).mono (by omega)⟩
  · go_wp2_with fail
    go_ret
    obtain ⟨cur, -, -, hnc⟩ := HN.out.block
    exact ⟨g, n, c, rfl, hn1, hn6, hnc, hgw, HN.out.netIn, HN.out.ds.mono (by omega)⟩

end My
end Go.Proofs.YtjmlekhgnbbjoaaGreatDoor
