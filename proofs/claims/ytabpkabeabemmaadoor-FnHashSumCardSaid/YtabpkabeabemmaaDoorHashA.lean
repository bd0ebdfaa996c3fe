/- SHA-256: the sum of "abc", round by round. Printed by wip/bin/mkabc.py. -/
import Derived.Test.YtabpkabeabemmaaDoorHashV
namespace Go.Proofs.YtabpkabeabemmaaDoor
open Go.RowKit Go.Deep
set_option linter.unusedVariables false
namespace My

theorem sched_old (F : Nat → Int) : ∀ m j, j < 16 + m → sched F (m + 1) j = sched F m j := by
  intro m j hj
  simp only [sched, setU]
  rw [if_neg (by omega)]
theorem sched_keep (F : Nat → Int) : ∀ k m j, j < 16 + m → sched F (m + k) j = sched F m j
  | 0, m, j, _ => rfl
  | k + 1, m, j, hj => by
    rw [show m + (k + 1) = (m + k) + 1 from rfl, sched_old F (m + k) j (by omega), sched_keep F k m j hj]
theorem sched_first (F : Nat → Int) (j : Nat) (hj : j < 16) : sched F 48 j = F j := sched_keep F 48 0 j (by omega)
theorem sched_next (F : Nat → Int) (m : Nat) (hm : m < 48) :
    sched F 48 (16 + m) = add32 (add32 (add32 (sched F 48 m) (sg0 (sched F 48 (m + 1)))) (sched F 48 (m + 9))) (sg1 (sched F 48 (m + 14))) := by
  obtain ⟨k, hk⟩ : ∃ k, 48 = (m + 1) + k := ⟨48 - (m + 1), by omega⟩
  have a1 : sched F 48 (16 + m) = nxtW (sched F m) (16 + m) := by
    rw [hk, sched_keep F k (m + 1) (16 + m) (by omega)]
    simp [sched, setU]
  have keep : ∀ j, j < 16 + m → sched F m j = sched F 48 j := by
    intro j hj
    rw [show 48 = m + (48 - m) from by omega, sched_keep F (48 - m) m j hj]
  rw [a1]
  unfold nxtW
  rw [keep _ (by omega), keep _ (by omega), keep _ (by omega), keep _ (by omega)]
  rw [show 16 + m - 16 = m from by omega, show 16 + m - 15 = m + 1 from by omega, show 16 + m - 7 = m + 9 from by omega, show 16 + m - 2 = m + 14 from by omega]
def St (F : Nat → Int) (a b c d e f g h : Int) : Prop := F 0 = a ∧ F 1 = b ∧ F 2 = c ∧ F 3 = d ∧ F 4 = e ∧ F 5 = f ∧ F 6 = g ∧ F 7 = h
theorem St.next {F K W : Nat → Int} {i : Nat} {a b c d e f g h : Int} (hs : St F a b c d e f g h) (k w : Int) (hk : K i = k) (hw : W i = w) (t x y : Int)
    (ht : add32 (add32 (add32 (add32 h (S1 e)) (chF e f g)) k) w = t) (hx : add32 (add32 t (S0 a)) (majF a b c) = x) (hy : add32 d t = y) : St (rnd F K W i) x a b c y e f g := by
  obtain ⟨h0, h1, h2, h3, h4, h5, h6, h7⟩ := hs
  have ho : oneF F K W i = t := by unfold oneF; rw [h4, h5, h6, h7, hk, hw, ht]
  refine ⟨?_, h0, h1, h2, ?_, h4, h5, h6⟩
  · show add32 (add32 (oneF F K W i) (S0 (F 0))) (majF (F 0) (F 1) (F 2)) = x
    rw [ho, h0, h1, h2, hx]
  · show add32 (F 3) (oneF F K W i) = y
    rw [ho, h3, hy]
theorem St.turn {F K W : Nat → Int} (n : Nat) {a b c d e f g h : Int} (hs : St (rnds F K W n) a b c d e f g h) (k w : Int) (hk : K n = k) (hw : W n = w) (t x y : Int)
    (ht : add32 (add32 (add32 (add32 h (S1 e)) (chF e f g)) k) w = t) (hx : add32 (add32 t (S0 a)) (majF a b c) = x) (hy : add32 d t = y) : St (rnds F K W (n + 1)) x a b c y e f g :=
  hs.next k w hk hw t x y ht hx hy
def abcL : List UInt8 := [97, 98, 99]
def abcB (j : Nat) : Int := bytF (padL abcL) (64 * 0 + j)
def abcW (j : Nat) : Int := sched (asmS abcB 16 0) 48 j
theorem abcW_first (j : Nat) (hj : j < 16) : abcW j = asmW abcB j 4 := by
  unfold abcW
  rw [sched_first _ j hj]
  unfold asmS
  rw [if_pos hj]
theorem abcW_next (m : Nat) (hm : m < 48) : abcW (16 + m) = add32 (add32 (add32 (abcW m) (sg0 (abcW (m + 1)))) (abcW (m + 9))) (sg1 (abcW (m + 14))) := sched_next _ m hm

set_option maxRecDepth 100000 in
theorem aw0 : abcW 0 = 1633837952 := by rw [abcW_first 0 (by omega)]; decide
set_option maxRecDepth 100000 in
theorem aw1 : abcW 1 = 0 := by rw [abcW_first 1 (by omega)]; decide
set_option maxRecDepth 100000 in
theorem aw2 : abcW 2 = 0 := by rw [abcW_first 2 (by omega)]; decide
set_option maxRecDepth 100000 in
theorem aw3 : abcW 3 = 0 := by rw [abcW_first 3 (by omega)]; decide
set_option maxRecDepth 100000 in
theorem aw4 : abcW 4 = 0 := by rw [abcW_first 4 (by omega)]; decide
set_option maxRecDepth 100000 in
theorem aw5 : abcW 5 = 0 := by rw [abcW_first 5 (by omega)]; decide
set_option maxRecDepth 100000 in
theorem aw6 : abcW 6 = 0 := by rw [abcW_first 6 (by omega)]; decide
set_option maxRecDepth 100000 in
theorem aw7 : abcW 7 = 0 := by rw [abcW_first 7 (by omega)]; decide
set_option maxRecDepth 100000 in
theorem aw8 : abcW 8 = 0 := by rw [abcW_first 8 (by omega)]; decide
set_option maxRecDepth 100000 in
theorem aw9 : abcW 9 = 0 := by rw [abcW_first 9 (by omega)]; decide
set_option maxRecDepth 100000 in
theorem aw10 : abcW 10 = 0 := by rw [abcW_first 10 (by omega)]; decide
set_option maxRecDepth 100000 in
theorem aw11 : abcW 11 = 0 := by rw [abcW_first 11 (by omega)]; decide
set_option maxRecDepth 100000 in
theorem aw12 : abcW 12 = 0 := by rw [abcW_first 12 (by omega)]; decide
set_option maxRecDepth 100000 in
theorem aw13 : abcW 13 = 0 := by rw [abcW_first 13 (by omega)]; decide
set_option maxRecDepth 100000 in
theorem aw14 : abcW 14 = 0 := by rw [abcW_first 14 (by omega)]; decide
set_option maxRecDepth 100000 in
theorem aw15 : abcW 15 = 24 := by rw [abcW_first 15 (by omega)]; decide
theorem aw16 : abcW 16 = 1633837952 := by rw [show 16 = 16 + 0 from rfl, abcW_next 0 (by omega), aw0, aw1, aw9, aw14]; decide
theorem aw17 : abcW 17 = 983040 := by rw [show 17 = 16 + 1 from rfl, abcW_next 1 (by omega), aw1, aw2, aw10, aw15]; decide
theorem aw18 : abcW 18 = 2108187653 := by rw [show 18 = 16 + 2 from rfl, abcW_next 2 (by omega), aw2, aw3, aw11, aw16]; decide
theorem aw19 : abcW 19 = 1610613702 := by rw [show 19 = 16 + 3 from rfl, abcW_next 3 (by omega), aw3, aw4, aw12, aw17]; decide
theorem aw20 : abcW 20 = 1050508152 := by rw [show 20 = 16 + 4 from rfl, abcW_next 4 (by omega), aw4, aw5, aw13, aw18]; decide
theorem aw21 : abcW 21 = 25426944 := by rw [show 21 = 16 + 5 from rfl, abcW_next 5 (by omega), aw5, aw6, aw14, aw19]; decide
theorem aw22 : abcW 22 = 316456923 := by rw [show 22 = 16 + 6 from rfl, abcW_next 6 (by omega), aw6, aw7, aw15, aw20]; decide
theorem aw23 : abcW 23 = 3806512014 := by rw [show 23 = 16 + 7 from rfl, abcW_next 7 (by omega), aw7, aw8, aw16, aw21]; decide
theorem aw24 : abcW 24 = 3357629466 := by rw [show 24 = 16 + 8 from rfl, abcW_next 8 (by omega), aw8, aw9, aw17, aw22]; decide
theorem aw25 : abcW 25 = 3073800610 := by rw [show 25 = 16 + 9 from rfl, abcW_next 9 (by omega), aw9, aw10, aw18, aw23]; decide
theorem aw26 : abcW 26 = 3854317833 := by rw [show 26 = 16 + 10 from rfl, abcW_next 10 (by omega), aw10, aw11, aw19, aw24]; decide
theorem aw27 : abcW 27 = 845560923 := by rw [show 27 = 16 + 11 from rfl, abcW_next 11 (by omega), aw11, aw12, aw20, aw25]; decide
theorem aw28 : abcW 28 = 2636160359 := by rw [show 28 = 16 + 12 from rfl, abcW_next 12 (by omega), aw12, aw13, aw21, aw26]; decide
theorem aw29 : abcW 29 = 3968280267 := by rw [show 29 = 16 + 13 from rfl, abcW_next 13 (by omega), aw13, aw14, aw22, aw27]; decide
theorem aw30 : abcW 30 = 1881225380 := by rw [show 30 = 16 + 14 from rfl, abcW_next 14 (by omega), aw14, aw15, aw23, aw28]; decide
theorem aw31 : abcW 31 = 3552024379 := by rw [show 31 = 16 + 15 from rfl, abcW_next 15 (by omega), aw15, aw16, aw24, aw29]; decide
theorem aw32 : abcW 32 = 2482346367 := by rw [show 32 = 16 + 16 from rfl, abcW_next 16 (by omega), aw16, aw17, aw25, aw30]; decide
theorem aw33 : abcW 33 = 996719219 := by rw [show 33 = 16 + 17 from rfl, abcW_next 17 (by omega), aw17, aw18, aw26, aw31]; decide
theorem aw34 : abcW 34 = 2952069057 := by rw [show 34 = 16 + 18 from rfl, abcW_next 18 (by omega), aw18, aw19, aw27, aw32]; decide
theorem aw35 : abcW 35 = 4043988066 := by rw [show 35 = 16 + 19 from rfl, abcW_next 19 (by omega), aw19, aw20, aw28, aw33]; decide
theorem aw36 : abcW 36 = 176896406 := by rw [show 36 = 16 + 20 from rfl, abcW_next 20 (by omega), aw20, aw21, aw29, aw34]; decide
theorem aw37 : abcW 37 = 1924104970 := by rw [show 37 = 16 + 21 from rfl, abcW_next 21 (by omega), aw21, aw22, aw30, aw35]; decide
theorem aw38 : abcW 38 = 2483675966 := by rw [show 38 = 16 + 22 from rfl, abcW_next 22 (by omega), aw22, aw23, aw31, aw36]; decide
theorem aw39 : abcW 39 = 610538786 := by rw [show 39 = 16 + 23 from rfl, abcW_next 23 (by omega), aw23, aw24, aw32, aw37]; decide
theorem aw40 : abcW 40 = 2672279444 := by rw [show 40 = 16 + 24 from rfl, abcW_next 24 (by omega), aw24, aw25, aw33, aw38]; decide
theorem aw41 : abcW 41 = 4037431130 := by rw [show 41 = 16 + 25 from rfl, abcW_next 25 (by omega), aw25, aw26, aw34, aw39]; decide
theorem aw42 : abcW 42 = 1042573945 := by rw [show 42 = 16 + 26 from rfl, abcW_next 26 (by omega), aw26, aw27, aw35, aw40]; decide
theorem aw43 : abcW 43 = 657669027 := by rw [show 43 = 16 + 27 from rfl, abcW_next 27 (by omega), aw27, aw28, aw36, aw41]; decide
theorem aw44 : abcW 44 = 206005234 := by rw [show 44 = 16 + 28 from rfl, abcW_next 28 (by omega), aw28, aw29, aw37, aw42]; decide
theorem aw45 : abcW 45 = 2215296807 := by rw [show 45 = 16 + 29 from rfl, abcW_next 29 (by omega), aw29, aw30, aw38, aw43]; decide
theorem aw46 : abcW 46 = 2049510749 := by rw [show 46 = 16 + 30 from rfl, abcW_next 30 (by omega), aw30, aw31, aw39, aw44]; decide
theorem aw47 : abcW 47 = 106709978 := by rw [show 47 = 16 + 31 from rfl, abcW_next 31 (by omega), aw31, aw32, aw40, aw45]; decide
theorem aw48 : abcW 48 = 4215179723 := by rw [show 48 = 16 + 32 from rfl, abcW_next 32 (by omega), aw32, aw33, aw41, aw46]; decide
theorem aw49 : abcW 49 = 3430291419 := by rw [show 49 = 16 + 33 from rfl, abcW_next 33 (by omega), aw33, aw34, aw42, aw47]; decide
theorem aw50 : abcW 50 = 3118885940 := by rw [show 50 = 16 + 34 from rfl, abcW_next 34 (by omega), aw34, aw35, aw43, aw48]; decide
theorem aw51 : abcW 51 = 2845390439 := by rw [show 51 = 16 + 35 from rfl, abcW_next 35 (by omega), aw35, aw36, aw44, aw49]; decide
theorem aw52 : abcW 52 = 2226839261 := by rw [show 52 = 16 + 36 from rfl, abcW_next 36 (by omega), aw36, aw37, aw45, aw50]; decide
theorem aw53 : abcW 53 = 3256115900 := by rw [show 53 = 16 + 37 from rfl, abcW_next 37 (by omega), aw37, aw38, aw46, aw51]; decide
theorem aw54 : abcW 54 = 344409900 := by rw [show 54 = 16 + 38 from rfl, abcW_next 38 (by omega), aw38, aw39, aw47, aw52]; decide
theorem aw55 : abcW 55 = 2987358873 := by rw [show 55 = 16 + 39 from rfl, abcW_next 39 (by omega), aw39, aw40, aw48, aw53]; decide
theorem aw56 : abcW 56 = 4015503821 := by rw [show 56 = 16 + 40 from rfl, abcW_next 40 (by omega), aw40, aw41, aw49, aw54]; decide
theorem aw57 : abcW 57 = 3957764664 := by rw [show 57 = 16 + 41 from rfl, abcW_next 41 (by omega), aw41, aw42, aw50, aw55]; decide
theorem aw58 : abcW 58 = 2682456414 := by rw [show 58 = 16 + 42 from rfl, abcW_next 42 (by omega), aw42, aw43, aw51, aw56]; decide
theorem aw59 : abcW 59 = 2025622859 := by rw [show 59 = 16 + 43 from rfl, abcW_next 43 (by omega), aw43, aw44, aw52, aw57]; decide
theorem aw60 : abcW 60 = 2755645205 := by rw [show 60 = 16 + 44 from rfl, abcW_next 44 (by omega), aw44, aw45, aw53, aw58]; decide
theorem aw61 : abcW 61 = 1720397816 := by rw [show 61 = 16 + 45 from rfl, abcW_next 45 (by omega), aw45, aw46, aw54, aw59]; decide
theorem aw62 : abcW 62 = 4004225740 := by rw [show 62 = 16 + 46 from rfl, abcW_next 46 (by omega), aw46, aw47, aw55, aw60]; decide
theorem aw63 : abcW 63 = 313650667 := by rw [show 63 = 16 + 47 from rfl, abcW_next 47 (by omega), aw47, aw48, aw56, aw61]; decide
theorem ar0 : St (rnds rootF kF abcW 0) 1779033703 3144134277 1013904242 2773480762 1359893119 2600822924 528734635 1541459225 := ⟨rfl, rfl, rfl, rfl, rfl, rfl, rfl, rfl⟩
theorem ar1 : St (rnds rootF kF abcW 1) 1567288269 1779033703 3144134277 1013904242 4197074466 1359893119 2600822924 528734635 := St.turn 0 ar0 1116352408 1633837952 rfl aw0 1423593704 1567288269 4197074466 (by decide) (by decide) (by decide)
theorem ar2 : St (rnds rootF kF abcW 2) 1516951981 1567288269 1779033703 3144134277 2026797449 4197074466 1359893119 2600822924 := St.turn 1 ar1 1899447441 0 rfl aw1 1012893207 1516951981 2026797449 (by decide) (by decide) (by decide)
theorem ar3 : St (rnds rootF kF abcW 3) 3368241063 1516951981 1567288269 1779033703 4180228587 2026797449 4197074466 1359893119 := St.turn 2 ar2 3049323471 0 rfl aw2 1036094310 3368241063 4180228587 (by decide) (by decide) (by decide)
theorem ar4 : St (rnds rootF kF abcW 4) 3578852966 3368241063 1516951981 1567288269 618661968 4180228587 2026797449 4197074466 := St.turn 3 ar3 3921009573 0 rfl aw3 3134595561 3578852966 618661968 (by decide) (by decide) (by decide)
theorem ar5 : St (rnds rootF kF abcW 5) 71342698 3578852966 3368241063 1516951981 1135452741 618661968 4180228587 2026797449 := St.turn 4 ar4 961987163 0 rfl aw4 3863131768 71342698 1135452741 (by decide) (by decide) (by decide)
theorem ar6 : St (rnds rootF kF abcW 6) 725748213 71342698 3578852966 3368241063 1900175533 1135452741 618661968 4180228587 := St.turn 5 ar5 1508970993 0 rfl aw5 383223552 725748213 1900175533 (by decide) (by decide) (by decide)
theorem ar7 : St (rnds rootF kF abcW 7) 3842179968 725748213 71342698 3578852966 2603066369 1900175533 1135452741 618661968 := St.turn 6 ar6 2453635748 0 rfl aw6 3529792602 3842179968 2603066369 (by decide) (by decide) (by decide)
theorem ar8 : St (rnds rootF kF abcW 8) 2241887071 3842179968 725748213 71342698 207977081 2603066369 1900175533 1135452741 := St.turn 7 ar7 2870763221 0 rfl aw7 924091411 2241887071 207977081 (by decide) (by decide) (by decide)
theorem ar9 : St (rnds rootF kF abcW 9) 2382687417 2241887071 3842179968 725748213 852110732 207977081 2603066369 1900175533 := St.turn 8 ar8 3624381080 0 rfl aw8 780768034 2382687417 852110732 (by decide) (by decide) (by decide)
theorem ar10 : St (rnds rootF kF abcW 10) 2357671019 2382687417 2241887071 3842179968 482944406 852110732 207977081 2603066369 := St.turn 9 ar9 310598401 0 rfl aw9 4052163489 2357671019 482944406 (by decide) (by decide) (by decide)
theorem ar11 : St (rnds rootF kF abcW 11) 1201185780 2357671019 2382687417 2241887071 1131095016 482944406 852110732 207977081 := St.turn 10 ar10 607225278 0 rfl aw10 1583882344 1201185780 1131095016 (by decide) (by decide) (by decide)
theorem ar12 : St (rnds rootF kF abcW 12) 4146054569 1201185780 2357671019 2382687417 2171590377 1131095016 482944406 852110732 := St.turn 11 ar11 1426881987 0 rfl aw11 4224670602 4146054569 2171590377 (by decide) (by decide) (by decide)
theorem ar13 : St (rnds rootF kF abcW 13) 2274437520 4146054569 1201185780 2357671019 509051416 2171590377 1131095016 482944406 := St.turn 12 ar12 1925078388 0 rfl aw12 2421331295 2274437520 509051416 (by decide) (by decide) (by decide)
theorem ar14 : St (rnds rootF kF abcW 14) 3643992854 2274437520 4146054569 1201185780 1952073950 509051416 2171590377 1131095016 := St.turn 13 ar13 2162078206 0 rfl aw13 3889370227 3643992854 1952073950 (by decide) (by decide) (by decide)
theorem ar15 : St (rnds rootF kF abcW 15) 3227803614 3643992854 2274437520 4146054569 194179596 1952073950 509051416 2171590377 := St.turn 14 ar14 2614888103 0 rfl aw14 3287961112 3227803614 194179596 (by decide) (by decide) (by decide)
theorem ar16 : St (rnds rootF kF abcW 16) 2969183118 3227803614 3643992854 2274437520 123276749 194179596 1952073950 509051416 := St.turn 15 ar15 3248222580 24 rfl aw15 272189476 2969183118 123276749 (by decide) (by decide) (by decide)
theorem ar17 : St (rnds rootF kF abcW 17) 567974555 2969183118 3227803614 3643992854 2150900380 123276749 194179596 1952073950 := St.turn 16 ar16 3835390401 1633837952 rfl aw16 4171430156 567974555 2150900380 (by decide) (by decide) (by decide)
theorem ar18 : St (rnds rootF kF abcW 18) 3271285201 567974555 2969183118 3227803614 2221859924 2150900380 123276749 194179596 := St.turn 17 ar17 4022224774 983040 rfl aw17 2872834366 3271285201 2221859924 (by decide) (by decide) (by decide)
theorem ar19 : St (rnds rootF kF abcW 19) 4269243327 3271285201 567974555 2969183118 3431569761 2221859924 2150900380 123276749 := St.turn 18 ar18 264347078 2108187653 rfl aw18 203766147 4269243327 3431569761 (by decide) (by decide) (by decide)
theorem ar20 : St (rnds rootF kF abcW 20) 3790736435 4269243327 3271285201 567974555 2959311225 3431569761 2221859924 2150900380 := St.turn 19 ar19 604807628 1610613702 rfl aw19 4285095403 3790736435 2959311225 (by decide) (by decide) (by decide)
theorem ar21 : St (rnds rootF kF abcW 21) 2647034723 3790736435 4269243327 3271285201 2329577776 2959311225 3431569761 2221859924 := St.turn 20 ar20 770255983 1050508152 rfl aw20 1761603221 2647034723 2329577776 (by decide) (by decide) (by decide)
theorem ar22 : St (rnds rootF kF abcW 22) 3261099373 2647034723 3790736435 4269243327 3777329520 2329577776 2959311225 3431569761 := St.turn 21 ar21 1249150122 25426944 rfl aw21 506044319 3261099373 3777329520 (by decide) (by decide) (by decide)
theorem ar23 : St (rnds rootF kF abcW 23) 2812502591 3261099373 2647034723 3790736435 1240797514 3777329520 2329577776 2959311225 := St.turn 22 ar22 1555081692 316456923 rfl aw22 1266521483 2812502591 1240797514 (by decide) (by decide) (by decide)
theorem ar24 : St (rnds rootF kF abcW 24) 3319086477 2812502591 3261099373 2647034723 2856829767 1240797514 3777329520 2329577776 := St.turn 23 ar23 1996064986 3806512014 rfl aw23 3361060628 3319086477 2856829767 (by decide) (by decide) (by decide)
theorem ar25 : St (rnds rootF kF abcW 25) 472655928 3319086477 2812502591 3261099373 673443729 2856829767 1240797514 3777329520 := St.turn 24 ar24 2554220882 3357629466 rfl aw24 2321376302 472655928 673443729 (by decide) (by decide) (by decide)
theorem ar26 : St (rnds rootF kF abcW 26) 3454534525 472655928 3319086477 2812502591 339230094 673443729 2856829767 1240797514 := St.turn 25 ar25 2821834349 3073800610 rfl aw25 1373098017 3454534525 339230094 (by decide) (by decide) (by decide)
theorem ar27 : St (rnds rootF kF abcW 27) 3056518332 3454534525 472655928 3319086477 3343672598 339230094 673443729 2856829767 := St.turn 26 ar26 2952996808 3854317833 rfl aw26 531170007 3056518332 3343672598 (by decide) (by decide) (by decide)
theorem ar28 : St (rnds rootF kF abcW 28) 2010346792 3056518332 3454534525 472655928 3992961016 3343672598 339230094 673443729 := St.turn 27 ar27 3210313671 845560923 rfl aw27 673874539 2010346792 3992961016 (by decide) (by decide) (by decide)
theorem ar29 : St (rnds rootF kF abcW 29) 909411017 2010346792 3056518332 3454534525 1628611511 3992961016 3343672598 339230094 := St.turn 28 ar28 3336571891 2636160359 rfl aw28 1155955583 909411017 1628611511 (by decide) (by decide) (by decide)
theorem ar30 : St (rnds rootF kF abcW 30) 2684750640 909411017 2010346792 3056518332 2917635127 1628611511 3992961016 3343672598 := St.turn 29 ar29 3584528711 3968280267 rfl aw29 3758067898 2684750640 2917635127 (by decide) (by decide) (by decide)
theorem ar31 : St (rnds rootF kF abcW 31) 3935906338 2684750640 909411017 2010346792 17410874 2917635127 1628611511 3992961016 := St.turn 30 ar30 113926993 1881225380 rfl aw30 1255859838 3935906338 17410874 (by decide) (by decide) (by decide)
theorem ar32 : St (rnds rootF kF abcW 32) 1941126133 3935906338 2684750640 909411017 3126399250 17410874 2917635127 1628611511 := St.turn 31 ar31 338241895 3552024379 rfl aw31 1116052458 1941126133 3126399250 (by decide) (by decide) (by decide)
theorem ar33 : St (rnds rootF kF abcW 33) 2564891911 1941126133 3935906338 2684750640 2631529974 3126399250 17410874 2917635127 := St.turn 32 ar32 666307205 2482346367 rfl aw32 1722118957 2564891911 2631529974 (by decide) (by decide) (by decide)
theorem ar34 : St (rnds rootF kF abcW 34) 4267724277 2564891911 1941126133 3935906338 1495571923 2631529974 3126399250 17410874 := St.turn 33 ar33 773529912 996719219 rfl aw33 3105788579 4267724277 1495571923 (by decide) (by decide) (by decide)
theorem ar35 : St (rnds rootF kF abcW 35) 2846323596 4267724277 2564891911 1941126133 140458035 1495571923 2631529974 3126399250 := St.turn 34 ar34 1294757372 2952069057 rfl aw34 499518993 2846323596 140458035 (by decide) (by decide) (by decide)
theorem ar36 : St (rnds rootF kF abcW 36) 1705037796 2846323596 4267724277 2564891911 4105175766 140458035 1495571923 2631529974 := St.turn 35 ar35 1396182291 4043988066 rfl aw35 2164049633 1705037796 4105175766 (by decide) (by decide) (by decide)
theorem ar37 : St (rnds rootF kF abcW 37) 1101421745 1705037796 2846323596 4267724277 124953195 4105175766 140458035 1495571923 := St.turn 36 ar36 1695183700 176896406 rfl aw36 1855028580 1101421745 124953195 (by decide) (by decide) (by decide)
theorem ar38 : St (rnds rootF kF abcW 38) 887035396 1101421745 1705037796 2846323596 2768741693 124953195 4105175766 140458035 := St.turn 37 ar37 1986661051 1924104970 rfl aw37 2795984712 887035396 2768741693 (by decide) (by decide) (by decide)
theorem ar39 : St (rnds rootF kF abcW 39) 1841658506 887035396 1101421745 1705037796 4034403272 2768741693 124953195 4105175766 := St.turn 38 ar38 2177026350 2483675966 rfl aw38 1188079676 1841658506 4034403272 (by decide) (by decide) (by decide)
theorem ar40 : St (rnds rootF kF abcW 40) 2045405306 1841658506 887035396 1101421745 519815328 4034403272 2768741693 124953195 := St.turn 39 ar39 2456956037 610538786 rfl aw39 3109744828 2045405306 519815328 (by decide) (by decide) (by decide)
theorem ar41 : St (rnds rootF kF abcW 41) 3597076326 2045405306 1841658506 887035396 641019235 519815328 4034403272 2768741693 := St.turn 40 ar40 2730485921 2672279444 rfl aw40 3834564786 3597076326 641019235 (by decide) (by decide) (by decide)
theorem ar42 : St (rnds rootF kF abcW 42) 3745932591 3597076326 2045405306 1841658506 2206934801 641019235 519815328 4034403272 := St.turn 41 ar41 2820302411 4037431130 rfl aw41 1319899405 3745932591 2206934801 (by decide) (by decide) (by decide)
theorem ar43 : St (rnds rootF kF abcW 43) 397020670 3745932591 3597076326 2045405306 3737995029 2206934801 641019235 519815328 := St.turn 42 ar42 3259730800 1042573945 rfl aw42 1896336523 397020670 3737995029 (by decide) (by decide) (by decide)
theorem ar44 : St (rnds rootF kF abcW 44) 2638983059 397020670 3745932591 3597076326 4255271982 3737995029 2206934801 641019235 := St.turn 43 ar43 3345764771 657669027 rfl aw43 2209866676 2638983059 4255271982 (by decide) (by decide) (by decide)
theorem ar45 : St (rnds rootF kF abcW 45) 643991573 2638983059 397020670 3745932591 2819559920 4255271982 3737995029 2206934801 := St.turn 44 ar44 3516065817 206005234 rfl aw44 3517450890 643991573 2819559920 (by decide) (by decide) (by decide)
theorem ar46 : St (rnds rootF kF abcW 46) 1923828625 643991573 2638983059 397020670 3077922209 2819559920 4255271982 3737995029 := St.turn 45 ar45 3600352804 2215296807 rfl aw45 3626956914 1923828625 3077922209 (by decide) (by decide) (by decide)
theorem ar47 : St (rnds rootF kF abcW 47) 2706117808 1923828625 643991573 2638983059 3581645993 3077922209 2819559920 4255271982 := St.turn 46 ar46 4094571909 2049510749 rfl aw46 3184625323 2706117808 3581645993 (by decide) (by decide) (by decide)
theorem ar48 : St (rnds rootF kF abcW 48) 1098003085 2706117808 1923828625 643991573 4274981830 3581645993 3077922209 2819559920 := St.turn 47 ar47 275423344 106709978 rfl aw47 1635998771 1098003085 4274981830 (by decide) (by decide) (by decide)
theorem ar49 : St (rnds rootF kF abcW 49) 91585771 1098003085 2706117808 1923828625 3178315832 4274981830 3581645993 3077922209 := St.turn 48 ar48 430227734 4215179723 rfl aw48 2534324259 91585771 3178315832 (by decide) (by decide) (by decide)
theorem ar50 : St (rnds rootF kF abcW 50) 4045142696 91585771 1098003085 2706117808 1851537676 3178315832 4274981830 3581645993 := St.turn 49 ar49 506948616 3430291419 rfl aw49 4222676347 4045142696 1851537676 (by decide) (by decide) (by decide)
theorem ar51 : St (rnds rootF kF abcW 51) 2047150241 4045142696 91585771 1098003085 1391578359 1851537676 3178315832 4274981830 := St.turn 50 ar50 659060556 3118885940 rfl aw50 2980427847 2047150241 1391578359 (by decide) (by decide) (by decide)
theorem ar52 : St (rnds rootF kF abcW 52) 2288941602 2047150241 4045142696 91585771 1227037726 1391578359 1851537676 3178315832 := St.turn 51 ar51 883997877 2845390439 rfl aw51 129034641 2288941602 1227037726 (by decide) (by decide) (by decide)
theorem ar53 : St (rnds rootF kF abcW 53) 270520975 2288941602 2047150241 4045142696 1386118400 1227037726 1391578359 1851537676 := St.turn 52 ar52 958139571 2226839261 rfl aw52 1294532629 270520975 1386118400 (by decide) (by decide) (by decide)
theorem ar54 : St (rnds rootF kF abcW 54) 4117770203 270520975 2288941602 2047150241 2672265155 1386118400 1227037726 1391578359 := St.turn 53 ar53 1322822218 3256115900 rfl aw53 2922089755 4117770203 2672265155 (by decide) (by decide) (by decide)
theorem ar55 : St (rnds rootF kF abcW 55) 1053056219 4117770203 270520975 2288941602 3842906959 2672265155 1386118400 1227037726 := St.turn 54 ar54 1537002063 344409900 rfl aw54 1795756718 1053056219 3842906959 (by decide) (by decide) (by decide)
theorem ar56 : St (rnds rootF kF abcW 56) 952932627 1053056219 4117770203 270520975 1422599787 3842906959 2672265155 1386118400 := St.turn 55 ar55 1747873779 2987358873 rfl aw55 3428625481 952932627 1422599787 (by decide) (by decide) (by decide)
theorem ar57 : St (rnds rootF kF abcW 57) 4241590395 952932627 1053056219 4117770203 2606665836 1422599787 3842906959 2672265155 := St.turn 56 ar56 1955562222 4015503821 rfl aw56 2336144861 4241590395 2606665836 (by decide) (by decide) (by decide)
theorem ar58 : St (rnds rootF kF abcW 58) 3227702383 4241590395 952932627 1053056219 2118385806 2606665836 1422599787 3842906959 := St.turn 57 ar57 2024104815 3957764664 rfl aw57 2295582899 3227702383 2118385806 (by decide) (by decide) (by decide)
theorem ar59 : St (rnds rootF kF abcW 59) 4290184306 3227702383 4241590395 952932627 1837350854 2118385806 2606665836 1422599787 := St.turn 58 ar58 2227730452 2682456414 rfl aw58 784294635 4290184306 1837350854 (by decide) (by decide) (by decide)
theorem ar60 : St (rnds rootF kF abcW 60) 3064893439 4290184306 3227702383 4241590395 2988158269 1837350854 2118385806 2606665836 := St.turn 59 ar59 2361852424 2025622859 rfl aw59 2035225642 3064893439 2988158269 (by decide) (by decide) (by decide)
theorem ar61 : St (rnds rootF kF abcW 61) 3093179625 3064893439 4290184306 3227702383 2518632596 2988158269 1837350854 2118385806 := St.turn 60 ar60 2428436474 2755645205 rfl aw60 2572009497 3093179625 2518632596 (by decide) (by decide) (by decide)
theorem ar62 : St (rnds rootF kF abcW 62) 80891244 3093179625 3064893439 4290184306 2492278198 2518632596 2988158269 1837350854 := St.turn 61 ar61 2756734187 1720397816 rfl aw61 3559543111 80891244 2492278198 (by decide) (by decide) (by decide)
theorem ar63 : St (rnds rootF kF abcW 63) 3550093669 80891244 3093179625 3064893439 4212265488 2492278198 2518632596 2988158269 := St.turn 62 ar62 3204031479 4004225740 rfl aw62 4217048478 3550093669 4212265488 (by decide) (by decide) (by decide)
theorem ar64 : St (rnds rootF kF abcW 64) 1349398616 3550093669 80891244 3093179625 1593118500 4212265488 2492278198 2518632596 := St.turn 63 ar63 3329325298 313650667 rfl aw63 2823192357 1349398616 1593118500 (by decide) (by decide) (by decide)
def abcR : List UInt8 := [98, 97, 55, 56, 49, 54, 98, 102, 56, 102, 48, 49, 99, 102, 101, 97, 52, 49, 52, 49, 52, 48, 100, 101, 53, 100, 97, 101, 50, 50, 50, 51, 98, 48, 48, 51, 54, 49, 97, 51, 57, 54, 49, 55, 55, 97, 57, 99, 98, 52, 49, 48, 102, 102, 54, 49, 102, 50, 48, 48, 49, 53, 97, 100]
theorem abc_fin (j : Nat) (v : Int) (hv : rnds rootF kF abcW 64 j = v) : hI (bytF (padL abcL)) 1 j = add32 (rootF j) v := by
  show add32 (rootF j) (rnds rootF kF abcW 64 j) = _
  rw [hv]
theorem ah0 : hI (bytF (padL abcL)) 1 0 = 3128432319 := (abc_fin 0 1349398616 ar64.1).trans (by decide)
theorem ah1 : hI (bytF (padL abcL)) 1 1 = 2399260650 := (abc_fin 1 3550093669 ar64.2.1).trans (by decide)
theorem ah2 : hI (bytF (padL abcL)) 1 2 = 1094795486 := (abc_fin 2 80891244 ar64.2.2.1).trans (by decide)
theorem ah3 : hI (bytF (padL abcL)) 1 3 = 1571693091 := (abc_fin 3 3093179625 ar64.2.2.2.1).trans (by decide)
theorem ah4 : hI (bytF (padL abcL)) 1 4 = 2953011619 := (abc_fin 4 1593118500 ar64.2.2.2.2.1).trans (by decide)
theorem ah5 : hI (bytF (padL abcL)) 1 5 = 2518121116 := (abc_fin 5 4212265488 ar64.2.2.2.2.2.1).trans (by decide)
theorem ah6 : hI (bytF (padL abcL)) 1 6 = 3021012833 := (abc_fin 6 2492278198 ar64.2.2.2.2.2.2.1).trans (by decide)
theorem ah7 : hI (bytF (padL abcL)) 1 7 = 4060091821 := (abc_fin 7 2518632596 ar64.2.2.2.2.2.2.2).trans (by decide)
theorem abc_len : (padL abcL).length / 64 = 1 := by rw [padL_length]; rfl
theorem abc_word (F : Nat → Int) (n u : Nat) (h : F n = (u : Int)) (hu : u < 4294967296) : hexW F (n + 1) = hexW F n ++ hexP 8 u := by
  rw [hexW_succ, h, Int.toNat_natCast, pad8_hexP u hu]
set_option maxRecDepth 100000 in
theorem abc_sum : shaT abcL = abcR := by
  unfold shaT
  rw [abc_len]
  rw [abc_word _ 7 4060091821 ah7 (by omega), abc_word _ 6 3021012833 ah6 (by omega), abc_word _ 5 2518121116 ah5 (by omega), abc_word _ 4 2953011619 ah4 (by omega), abc_word _ 3 1571693091 ah3 (by omega), abc_word _ 2 1094795486 ah2 (by omega), abc_word _ 1 2399260650 ah1 (by omega), abc_word _ 0 3128432319 ah0 (by omega)]
  decide
end My
end Go.Proofs.YtabpkabeabemmaaDoor
