/- UnifyFormulas: the program's toBind (written by genbind.py). -/
import Derived.Test.YtdpnkojchimmfaaQBUnif
import Derived.OwnWalk

namespace Go.Proofs.Ytdpnkojchimmfaa
open Go.RowKit Go.Deep

theorem bind_yes {d : List Nd} {s : Int} (hg : d.all nodeB = true) (hs0 : 0 ≤ s) (h : s ∈ varL d) : hasB (varMask d) s = true := by rw [mem_varMask hg hs0]; exact decide_eq_true h
theorem bind_no {d : List Nd} {s : Int} (hg : d.all nodeB = true) (hs0 : 0 ≤ s) (h : s ∉ varL d) : hasB (varMask d) s = false := by rw [mem_varMask hg hs0]; exact decide_eq_false h
theorem head_var {x : List Nd} (hg : x.all nodeB = true) (hp : 0 < x.length) (h0 : (headN x).1 = 0) : 0 ≤ (headN x).2 ∧ (headN x).2 ≤ 5 := by
  cases x with
  | nil => simp at hp
  | cons n l =>
    have h9 := List.all_eq_true.1 hg n List.mem_cons_self
    unfold nodeB at h9
    rw [if_pos (show n.1 = 0 from h0), decide_eq_true_eq] at h9
    exact h9

set_option maxHeartbeats 2000000 in
set_option maxRecDepth 100000 in
theorem toBind_a1 (bb o bb' o' lx ly c c' : Nat) (kx sx ky sy mx : Int) (w : World) (hpx : 0 < lx) (hcx : lx ≤ c) (hpy : 0 < ly) (hcy : ly ≤ c') (hc0 : w.cell? ⟨bb, o, none⟩ = some (.int .i64 kx)) (hc1 : w.cell? ⟨bb, o + 1, none⟩ = some (.int .i64 sx)) (hd0 : w.cell? ⟨bb', o', none⟩ = some (.int .i64 ky)) (hd1 : w.cell? ⟨bb', o' + 1, none⟩ = some (.int .i64 sy)) (hkx : kx = 0) (hky : ky = 0) (h3 : sx < sy)
    (hm0 : 0 ≤ mx ∧ mx < 64) (hs0 : 0 ≤ sy ∧ sy ≤ 5) (hhb : Hid (hasB mx sy = true)) (hmk : Hid (∀ W, Below w.heap.size w W → Calls Try.prog 67 #[.slice (some ⟨bb, o, none⟩) lx c] W fun e w' => e = .returned (.int .i64 mx) ∧ Below W.heap.size W w')) :
    Calls Try.prog 31 #[.slice (some ⟨bb, o, none⟩) lx c, .slice (some ⟨bb', o', none⟩) ly c'] w fun e w' => e = .returned (.tuple #[.int .i64 0, .slice none 0 0, .bool false]) ∧ Below w.heap.size w w' := by
  subst hkx hky
  have hhas := Lib.hid (fun W => has_any mx sy hm0.1 (by omega) hs0.1 (by omega) W)
  rw [hhb.out] at hhas
  go_enter Try.func31, Try.ntmps31
  go_wp2_with fail
  go_quiet (fail)
  go_wp2_with fail
  (first | (go_region_with (first
    | (go_at_call 67; refine (hmk.out _ (by first | exact Below.refl _ _ | exact Below.drew (Below.refl _ _) | exact below_drewN' _ _ | exact (below_drewN' _ _).drew)).mono ?_; rintro e w1 ⟨rfl, b1⟩; have hk1 := keep_cell b1 hd1)
    | (go_at_call 66; refine (hhas.out _).mono ?_; rintro e w' ⟨rfl, rfl⟩))) | fail)
  all_goals
    have B1 : Below w.heap.size w w1 := by first | exact keep_step b1 (below_drewN' _ _) | exact keep_step b1 (below_drewN' _ _).drew | exact keep_step b1 (Below.refl _ _).drew | exact b1
    go_wp2_with fail
    go_ret3
    exact ⟨rfl, B1⟩

set_option maxHeartbeats 2000000 in
set_option maxRecDepth 100000 in
theorem toBind_a2 (bb o bb' o' lx ly c c' : Nat) (kx sx ky sy mx : Int) (w : World) (hpx : 0 < lx) (hcx : lx ≤ c) (hpy : 0 < ly) (hcy : ly ≤ c') (hc0 : w.cell? ⟨bb, o, none⟩ = some (.int .i64 kx)) (hc1 : w.cell? ⟨bb, o + 1, none⟩ = some (.int .i64 sx)) (hd0 : w.cell? ⟨bb', o', none⟩ = some (.int .i64 ky)) (hd1 : w.cell? ⟨bb', o' + 1, none⟩ = some (.int .i64 sy)) (hkx : kx = 0) (hky : ky = 0) (h3 : sx < sy)
    (hm0 : 0 ≤ mx ∧ mx < 64) (hs0 : 0 ≤ sy ∧ sy ≤ 5) (hhb : Hid (hasB mx sy = false)) (hmk : Hid (∀ W, Below w.heap.size w W → Calls Try.prog 67 #[.slice (some ⟨bb, o, none⟩) lx c] W fun e w' => e = .returned (.int .i64 mx) ∧ Below W.heap.size W w')) :
    Calls Try.prog 31 #[.slice (some ⟨bb, o, none⟩) lx c, .slice (some ⟨bb', o', none⟩) ly c'] w fun e w' => e = .returned (.tuple #[.int .i64 sy, .slice (some ⟨bb, o, none⟩) lx c, .bool true]) ∧ Below w.heap.size w w' := by
  subst hkx hky
  have hhas := Lib.hid (fun W => has_any mx sy hm0.1 (by omega) hs0.1 (by omega) W)
  rw [hhb.out] at hhas
  go_enter Try.func31, Try.ntmps31
  go_wp2_with fail
  go_quiet (fail)
  go_wp2_with fail
  (first | (go_region_with (first
    | (go_at_call 67; refine (hmk.out _ (by first | exact Below.refl _ _ | exact Below.drew (Below.refl _ _) | exact below_drewN' _ _ | exact (below_drewN' _ _).drew)).mono ?_; rintro e w1 ⟨rfl, b1⟩; have hk1 := keep_cell b1 hd1)
    | (go_at_call 66; refine (hhas.out _).mono ?_; rintro e w' ⟨rfl, rfl⟩))) | fail)
  all_goals
    have B1 : Below w.heap.size w w1 := by first | exact keep_step b1 (below_drewN' _ _) | exact keep_step b1 (below_drewN' _ _).drew | exact keep_step b1 (Below.refl _ _).drew | exact b1
    go_wp2_with fail
    go_ret3
    exact ⟨rfl, B1⟩

set_option maxHeartbeats 2000000 in
set_option maxRecDepth 100000 in
theorem toBind_b1 (bb o bb' o' lx ly c c' : Nat) (kx sx ky sy my : Int) (w : World) (hpx : 0 < lx) (hcx : lx ≤ c) (hpy : 0 < ly) (hcy : ly ≤ c') (hc0 : w.cell? ⟨bb, o, none⟩ = some (.int .i64 kx)) (hc1 : w.cell? ⟨bb, o + 1, none⟩ = some (.int .i64 sx)) (hd0 : w.cell? ⟨bb', o', none⟩ = some (.int .i64 ky)) (hd1 : w.cell? ⟨bb', o' + 1, none⟩ = some (.int .i64 sy)) (hkx : kx = 0) (hky : ky = 0) (h3 : ¬ sx < sy)
    (hm0 : 0 ≤ my ∧ my < 64) (hs0 : 0 ≤ sx ∧ sx ≤ 5) (hhb : Hid (hasB my sx = true)) (hmk : Hid (∀ W, Below w.heap.size w W → Calls Try.prog 67 #[.slice (some ⟨bb', o', none⟩) ly c'] W fun e w' => e = .returned (.int .i64 my) ∧ Below W.heap.size W w')) :
    Calls Try.prog 31 #[.slice (some ⟨bb, o, none⟩) lx c, .slice (some ⟨bb', o', none⟩) ly c'] w fun e w' => e = .returned (.tuple #[.int .i64 0, .slice none 0 0, .bool false]) ∧ Below w.heap.size w w' := by
  subst hkx hky
  have hhas := Lib.hid (fun W => has_any my sx hm0.1 (by omega) hs0.1 (by omega) W)
  rw [hhb.out] at hhas
  go_enter Try.func31, Try.ntmps31
  go_wp2_with fail
  go_quiet (fail)
  go_wp2_with fail
  (first | (go_region_with (first
    | (go_at_call 67; refine (hmk.out _ (by first | exact Below.refl _ _ | exact Below.drew (Below.refl _ _) | exact below_drewN' _ _ | exact (below_drewN' _ _).drew)).mono ?_; rintro e w1 ⟨rfl, b1⟩; have hk1 := keep_cell b1 hc1)
    | (go_at_call 66; refine (hhas.out _).mono ?_; rintro e w' ⟨rfl, rfl⟩))) | fail)
  all_goals
    have B1 : Below w.heap.size w w1 := by first | exact keep_step b1 (below_drewN' _ _) | exact keep_step b1 (below_drewN' _ _).drew | exact keep_step b1 (Below.refl _ _).drew | exact b1
    go_wp2_with fail
    go_ret3
    exact ⟨rfl, B1⟩

set_option maxHeartbeats 2000000 in
set_option maxRecDepth 100000 in
theorem toBind_b2 (bb o bb' o' lx ly c c' : Nat) (kx sx ky sy my : Int) (w : World) (hpx : 0 < lx) (hcx : lx ≤ c) (hpy : 0 < ly) (hcy : ly ≤ c') (hc0 : w.cell? ⟨bb, o, none⟩ = some (.int .i64 kx)) (hc1 : w.cell? ⟨bb, o + 1, none⟩ = some (.int .i64 sx)) (hd0 : w.cell? ⟨bb', o', none⟩ = some (.int .i64 ky)) (hd1 : w.cell? ⟨bb', o' + 1, none⟩ = some (.int .i64 sy)) (hkx : kx = 0) (hky : ky = 0) (h3 : ¬ sx < sy)
    (hm0 : 0 ≤ my ∧ my < 64) (hs0 : 0 ≤ sx ∧ sx ≤ 5) (hhb : Hid (hasB my sx = false)) (hmk : Hid (∀ W, Below w.heap.size w W → Calls Try.prog 67 #[.slice (some ⟨bb', o', none⟩) ly c'] W fun e w' => e = .returned (.int .i64 my) ∧ Below W.heap.size W w')) :
    Calls Try.prog 31 #[.slice (some ⟨bb, o, none⟩) lx c, .slice (some ⟨bb', o', none⟩) ly c'] w fun e w' => e = .returned (.tuple #[.int .i64 sx, .slice (some ⟨bb', o', none⟩) ly c', .bool true]) ∧ Below w.heap.size w w' := by
  subst hkx hky
  have hhas := Lib.hid (fun W => has_any my sx hm0.1 (by omega) hs0.1 (by omega) W)
  rw [hhb.out] at hhas
  go_enter Try.func31, Try.ntmps31
  go_wp2_with fail
  go_quiet (fail)
  go_wp2_with fail
  (first | (go_region_with (first
    | (go_at_call 67; refine (hmk.out _ (by first | exact Below.refl _ _ | exact Below.drew (Below.refl _ _) | exact below_drewN' _ _ | exact (below_drewN' _ _).drew)).mono ?_; rintro e w1 ⟨rfl, b1⟩; have hk1 := keep_cell b1 hc1)
    | (go_at_call 66; refine (hhas.out _).mono ?_; rintro e w' ⟨rfl, rfl⟩))) | fail)
  all_goals
    have B1 : Below w.heap.size w w1 := by first | exact keep_step b1 (below_drewN' _ _) | exact keep_step b1 (below_drewN' _ _).drew | exact keep_step b1 (Below.refl _ _).drew | exact b1
    go_wp2_with fail
    go_ret3
    exact ⟨rfl, B1⟩

set_option maxHeartbeats 2000000 in
set_option maxRecDepth 100000 in
theorem toBind_c1 (bb o bb' o' lx ly c c' : Nat) (kx sx ky sy my : Int) (w : World) (hpx : 0 < lx) (hcx : lx ≤ c) (hpy : 0 < ly) (hcy : ly ≤ c') (hc0 : w.cell? ⟨bb, o, none⟩ = some (.int .i64 kx)) (hc1 : w.cell? ⟨bb, o + 1, none⟩ = some (.int .i64 sx)) (hd0 : w.cell? ⟨bb', o', none⟩ = some (.int .i64 ky)) (hd1 : w.cell? ⟨bb', o' + 1, none⟩ = some (.int .i64 sy)) (hkx : kx = 0) (hky : ¬ ky = 0)
    (hm0 : 0 ≤ my ∧ my < 64) (hs0 : 0 ≤ sx ∧ sx ≤ 5) (hhb : Hid (hasB my sx = true)) (hmk : Hid (∀ W, Below w.heap.size w W → Calls Try.prog 67 #[.slice (some ⟨bb', o', none⟩) ly c'] W fun e w' => e = .returned (.int .i64 my) ∧ Below W.heap.size W w')) :
    Calls Try.prog 31 #[.slice (some ⟨bb, o, none⟩) lx c, .slice (some ⟨bb', o', none⟩) ly c'] w fun e w' => e = .returned (.tuple #[.int .i64 0, .slice none 0 0, .bool false]) ∧ Below w.heap.size w w' := by
  have e1 : (ky == 0) = false := by rw [beq_eq_false_iff_ne]; exact hky
  clear hky
  subst hkx
  have hhas := Lib.hid (fun W => has_any my sx hm0.1 (by omega) hs0.1 (by omega) W)
  rw [hhb.out] at hhas
  go_enter Try.func31, Try.ntmps31
  go_wp2_with fail
  go_quiet (fail)
  go_wp2_with fail
  (first | (go_region_with (first
    | (go_at_call 67; refine (hmk.out _ (by first | exact Below.refl _ _ | exact Below.drew (Below.refl _ _) | exact below_drewN' _ _ | exact (below_drewN' _ _).drew)).mono ?_; rintro e w1 ⟨rfl, b1⟩; have hk1 := keep_cell b1 hc1)
    | (go_at_call 66; refine (hhas.out _).mono ?_; rintro e w' ⟨rfl, rfl⟩))) | fail)
  all_goals
    have B1 : Below w.heap.size w w1 := by first | exact keep_step b1 (below_drewN' _ _) | exact keep_step b1 (below_drewN' _ _).drew | exact keep_step b1 (Below.refl _ _).drew | exact b1
    go_wp2_with fail
    go_ret3
    exact ⟨rfl, B1⟩

set_option maxHeartbeats 2000000 in
set_option maxRecDepth 100000 in
theorem toBind_c2 (bb o bb' o' lx ly c c' : Nat) (kx sx ky sy my : Int) (w : World) (hpx : 0 < lx) (hcx : lx ≤ c) (hpy : 0 < ly) (hcy : ly ≤ c') (hc0 : w.cell? ⟨bb, o, none⟩ = some (.int .i64 kx)) (hc1 : w.cell? ⟨bb, o + 1, none⟩ = some (.int .i64 sx)) (hd0 : w.cell? ⟨bb', o', none⟩ = some (.int .i64 ky)) (hd1 : w.cell? ⟨bb', o' + 1, none⟩ = some (.int .i64 sy)) (hkx : kx = 0) (hky : ¬ ky = 0)
    (hm0 : 0 ≤ my ∧ my < 64) (hs0 : 0 ≤ sx ∧ sx ≤ 5) (hhb : Hid (hasB my sx = false)) (hmk : Hid (∀ W, Below w.heap.size w W → Calls Try.prog 67 #[.slice (some ⟨bb', o', none⟩) ly c'] W fun e w' => e = .returned (.int .i64 my) ∧ Below W.heap.size W w')) :
    Calls Try.prog 31 #[.slice (some ⟨bb, o, none⟩) lx c, .slice (some ⟨bb', o', none⟩) ly c'] w fun e w' => e = .returned (.tuple #[.int .i64 sx, .slice (some ⟨bb', o', none⟩) ly c', .bool true]) ∧ Below w.heap.size w w' := by
  have e1 : (ky == 0) = false := by rw [beq_eq_false_iff_ne]; exact hky
  clear hky
  subst hkx
  have hhas := Lib.hid (fun W => has_any my sx hm0.1 (by omega) hs0.1 (by omega) W)
  rw [hhb.out] at hhas
  go_enter Try.func31, Try.ntmps31
  go_wp2_with fail
  go_quiet (fail)
  go_wp2_with fail
  (first | (go_region_with (first
    | (go_at_call 67; refine (hmk.out _ (by first | exact Below.refl _ _ | exact Below.drew (Below.refl _ _) | exact below_drewN' _ _ | exact (below_drewN' _ _).drew)).mono ?_; rintro e w1 ⟨rfl, b1⟩; have hk1 := keep_cell b1 hc1)
    | (go_at_call 66; refine (hhas.out _).mono ?_; rintro e w' ⟨rfl, rfl⟩))) | fail)
  all_goals
    have B1 : Below w.heap.size w w1 := by first | exact keep_step b1 (below_drewN' _ _) | exact keep_step b1 (below_drewN' _ _).drew | exact keep_step b1 (Below.refl _ _).drew | exact b1
    go_wp2_with fail
    go_ret3
    exact ⟨rfl, B1⟩

set_option maxHeartbeats 2000000 in
set_option maxRecDepth 100000 in
theorem toBind_d1 (bb o bb' o' lx ly c c' : Nat) (kx sx ky sy mx : Int) (w : World) (hpx : 0 < lx) (hcx : lx ≤ c) (hpy : 0 < ly) (hcy : ly ≤ c') (hc0 : w.cell? ⟨bb, o, none⟩ = some (.int .i64 kx)) (hc1 : w.cell? ⟨bb, o + 1, none⟩ = some (.int .i64 sx)) (hd0 : w.cell? ⟨bb', o', none⟩ = some (.int .i64 ky)) (hd1 : w.cell? ⟨bb', o' + 1, none⟩ = some (.int .i64 sy)) (hkx : ¬ kx = 0) (hky : ky = 0)
    (hm0 : 0 ≤ mx ∧ mx < 64) (hs0 : 0 ≤ sy ∧ sy ≤ 5) (hhb : Hid (hasB mx sy = true)) (hmk : Hid (∀ W, Below w.heap.size w W → Calls Try.prog 67 #[.slice (some ⟨bb, o, none⟩) lx c] W fun e w' => e = .returned (.int .i64 mx) ∧ Below W.heap.size W w')) :
    Calls Try.prog 31 #[.slice (some ⟨bb, o, none⟩) lx c, .slice (some ⟨bb', o', none⟩) ly c'] w fun e w' => e = .returned (.tuple #[.int .i64 0, .slice none 0 0, .bool false]) ∧ Below w.heap.size w w' := by
  have e1 : (kx != 0) = true := by rw [bne_iff_ne]; exact hkx
  clear hkx
  subst hky
  have hhas := Lib.hid (fun W => has_any mx sy hm0.1 (by omega) hs0.1 (by omega) W)
  rw [hhb.out] at hhas
  go_enter Try.func31, Try.ntmps31
  go_wp2_with fail
  go_quiet (fail)
  go_wp2_with fail
  (first | (go_region_with (first
    | (go_at_call 67; refine (hmk.out _ (by first | exact Below.refl _ _ | exact Below.drew (Below.refl _ _) | exact below_drewN' _ _ | exact (below_drewN' _ _).drew)).mono ?_; rintro e w1 ⟨rfl, b1⟩; have hk1 := keep_cell b1 hd1)
    | (go_at_call 66; refine (hhas.out _).mono ?_; rintro e w' ⟨rfl, rfl⟩))) | fail)
  all_goals
    have B1 : Below w.heap.size w w1 := by first | exact keep_step b1 (below_drewN' _ _) | exact keep_step b1 (below_drewN' _ _).drew | exact keep_step b1 (Below.refl _ _).drew | exact b1
    go_wp2_with fail
    go_ret3
    exact ⟨rfl, B1⟩

set_option maxHeartbeats 2000000 in
set_option maxRecDepth 100000 in
theorem toBind_d2 (bb o bb' o' lx ly c c' : Nat) (kx sx ky sy mx : Int) (w : World) (hpx : 0 < lx) (hcx : lx ≤ c) (hpy : 0 < ly) (hcy : ly ≤ c') (hc0 : w.cell? ⟨bb, o, none⟩ = some (.int .i64 kx)) (hc1 : w.cell? ⟨bb, o + 1, none⟩ = some (.int .i64 sx)) (hd0 : w.cell? ⟨bb', o', none⟩ = some (.int .i64 ky)) (hd1 : w.cell? ⟨bb', o' + 1, none⟩ = some (.int .i64 sy)) (hkx : ¬ kx = 0) (hky : ky = 0)
    (hm0 : 0 ≤ mx ∧ mx < 64) (hs0 : 0 ≤ sy ∧ sy ≤ 5) (hhb : Hid (hasB mx sy = false)) (hmk : Hid (∀ W, Below w.heap.size w W → Calls Try.prog 67 #[.slice (some ⟨bb, o, none⟩) lx c] W fun e w' => e = .returned (.int .i64 mx) ∧ Below W.heap.size W w')) :
    Calls Try.prog 31 #[.slice (some ⟨bb, o, none⟩) lx c, .slice (some ⟨bb', o', none⟩) ly c'] w fun e w' => e = .returned (.tuple #[.int .i64 sy, .slice (some ⟨bb, o, none⟩) lx c, .bool true]) ∧ Below w.heap.size w w' := by
  have e1 : (kx != 0) = true := by rw [bne_iff_ne]; exact hkx
  clear hkx
  subst hky
  have hhas := Lib.hid (fun W => has_any mx sy hm0.1 (by omega) hs0.1 (by omega) W)
  rw [hhb.out] at hhas
  go_enter Try.func31, Try.ntmps31
  go_wp2_with fail
  go_quiet (fail)
  go_wp2_with fail
  (first | (go_region_with (first
    | (go_at_call 67; refine (hmk.out _ (by first | exact Below.refl _ _ | exact Below.drew (Below.refl _ _) | exact below_drewN' _ _ | exact (below_drewN' _ _).drew)).mono ?_; rintro e w1 ⟨rfl, b1⟩; have hk1 := keep_cell b1 hd1)
    | (go_at_call 66; refine (hhas.out _).mono ?_; rintro e w' ⟨rfl, rfl⟩))) | fail)
  all_goals
    have B1 : Below w.heap.size w w1 := by first | exact keep_step b1 (below_drewN' _ _) | exact keep_step b1 (below_drewN' _ _).drew | exact keep_step b1 (Below.refl _ _).drew | exact b1
    go_wp2_with fail
    go_ret3
    exact ⟨rfl, B1⟩

set_option maxHeartbeats 2000000 in
set_option maxRecDepth 100000 in
theorem toBind_e (bb o bb' o' lx ly c c' : Nat) (kx sx ky sy _m : Int) (w : World) (hpx : 0 < lx) (hcx : lx ≤ c) (hpy : 0 < ly) (hcy : ly ≤ c') (hc0 : w.cell? ⟨bb, o, none⟩ = some (.int .i64 kx)) (hc1 : w.cell? ⟨bb, o + 1, none⟩ = some (.int .i64 sx)) (hd0 : w.cell? ⟨bb', o', none⟩ = some (.int .i64 ky)) (hd1 : w.cell? ⟨bb', o' + 1, none⟩ = some (.int .i64 sy)) (hkx : ¬ kx = 0) (hky : ¬ ky = 0) :
    Calls Try.prog 31 #[.slice (some ⟨bb, o, none⟩) lx c, .slice (some ⟨bb', o', none⟩) ly c'] w fun e w' => e = .returned (.tuple #[.int .i64 0, .slice none 0 0, .bool false]) ∧ Below w.heap.size w w' := by
  have e1 : (kx != 0) = true := by rw [bne_iff_ne]; exact hkx
  have e2 : (ky != 0) = true := by rw [bne_iff_ne]; exact hky
  clear hkx hky
  go_enter Try.func31, Try.ntmps31
  go_wp2_with fail
  go_quiet (fail)
  go_wp2_with fail
  go_quiet (fail)
  go_wp2_with fail
  go_ret3
  exact ⟨rfl, below_drewN (below_drewN' _ _) _⟩

end Go.Proofs.Ytdpnkojchimmfaa
