/- The law's own walk of IsModalAlgebra. -/
import Derived.Test.YtjjnnlfcdncefaaAlg
import Derived.Test.YtjjnnlfcdncefaaOpenS
import Derived.Deep.RegionHeld3
namespace Go.Proofs.Ytjjnnlfcdncefaa
open Go.RowKit

set_option maxHeartbeats 2000000 in
theorem w_FnExactIsModalAlgebra (v : Value) (p : Int × List Int) (w : World) (h : Pair w v p.1 p.2) :
    Calls Try.prog 4 #[v] w fun e w' => e = .returned (.bool true) ∧ Below w.heap.size w w' := by
  obtain ⟨n, xs⟩ := p
  obtain ⟨a, c, rfl, hi⟩ := h
  simp only at hi ⊢
  have hba := (Below.refl w.heap.size w).alloc (Nat.le_refl _) (.cells #[.int .i64 n, .slice a xs.length c] 32)
  have hp := Lib.hid (show Pair (w.alloc (.cells #[.int .i64 n, .slice a xs.length c] 32)) (.agg #[.int .i64 n, .slice a xs.length c]) n xs from ⟨a, c, rfl, hi.below hba (Nat.le_refl _)⟩)
  have hx0 : (w.alloc (.cells #[.int .i64 n, .slice a xs.length c] 32)).cell? ⟨w.heap.size, 0, none⟩ = some (.int .i64 n) := by rw [World.cell?_alloc_at _ _ _ _ rfl]; rfl
  have hx1 : (w.alloc (.cells #[.int .i64 n, .slice a xs.length c] 32)).cell? ⟨w.heap.size, 1, none⟩ = some (.slice a xs.length c) := by rw [World.cell?_alloc_at _ _ _ _ rfl]; rfl
  have hxs : w.heap.size < (w.alloc (.cells #[.int .i64 n, .slice a xs.length c] 32)).heap.size := by simp
  have hspec := Lib.hid (fun v w h => specIsModalAlgebra_any v n xs w h)
  have himpl := Lib.hid (fun v w h => implIsModalAlgebra_any v n xs w h)
  generalize algB n xs = B at *
  clear hi
  by_cases hl : (1048576 : Int) < (xs.length : Nat)
  · have hs := Lib.hid (szRI_lt hl)
    go_enter Try.func4, Try.ntmps4
    go_wp2_with fail
    generalize w.alloc (.cells #[.int .i64 n, .slice a xs.length c] 32) = W0 at *
    refine (szModalAlgebra_any _ n xs _ _ hp.out (by omega) (by omega)).mono ?_
    rintro e w1 ⟨rfl, b1⟩
    rw [hs.out]
    go_wp2_with fail
    go_ret
    exact ⟨rfl, hba.trans (b1.mono hba.size)⟩
  · have hge : (xs.length : Int) ≤ 1048576 := by omega
    have hs := Lib.hid (szRI_ge hge)
    go_enter Try.func4, Try.ntmps4
    go_wp2_with fail
    generalize w.alloc (.cells #[.int .i64 n, .slice a xs.length c] 32) = W0 at *
    refine (szModalAlgebra_any _ n xs _ _ hp.out (by omega) (by omega)).mono ?_
    rintro e w1 ⟨rfl, b1⟩
    rw [hs.out]
    have hx0 := keep_cell b1 hx0
    have hx1 := keep_cell b1 hx1
    go_wp2_with fail
    refine (toModalAlgebra_any _ n xs _ (hp.out.below b1 (Nat.le_refl _)) (by omega)).mono ?_
    rintro e w2 ⟨v2, rfl, ho2, b2⟩
    have hx0 := keep_cell b2 hx0
    have hx1 := keep_cell b2 hx1
    have B2 := b1.trans (b2.mono b1.size)
    have ho2 := Lib.hid ho2
    go_wp2_with fail
    refine (hspec.out _ _ (pair_of_own ho2.out)).mono ?_
    rintro e w3 ⟨rfl, b3⟩
    have hx0 := keep_cell b3 hx0
    have hx1 := keep_cell b3 hx1
    have B3 := B2.trans (b3.mono B2.size)
    go_wp2_with fail
    refine (toModalAlgebra_any _ n xs _ (hp.out.below B3 (Nat.le_refl _)) (by omega)).mono ?_
    rintro e w4 ⟨v4, rfl, ho4, b4⟩
    have hx0 := keep_cell b4 hx0
    have hx1 := keep_cell b4 hx1
    have B4 := B3.trans (b4.mono B3.size)
    obtain ⟨_, a4, c4, bb4, o4, rfl, _⟩ := (ints_of_own ho4).opened
    have hb5 := (Below.refl w4.heap.size w4).alloc (Nat.le_refl _) (.cells #[.int .i64 n, .slice a4 xs.length c4] 35)
    have hp5 := Lib.hid (show Pair (w4.alloc (.cells #[.int .i64 n, .slice a4 xs.length c4] 35)) (.agg #[.int .i64 n, .slice a4 xs.length c4]) n xs from ⟨a4, c4, rfl, (ints_of_own ho4).below hb5 (Nat.le_refl _)⟩)
    have hy0 : (w4.alloc (.cells #[.int .i64 n, .slice a4 xs.length c4] 35)).cell? ⟨w4.heap.size, 0, none⟩ = some (.int .i64 n) := by rw [World.cell?_alloc_at _ _ _ _ rfl]; rfl
    have hy1 : (w4.alloc (.cells #[.int .i64 n, .slice a4 xs.length c4] 35)).cell? ⟨w4.heap.size, 1, none⟩ = some (.slice a4 xs.length c4) := by rw [World.cell?_alloc_at _ _ _ _ rfl]; rfl
    have B5 := B4.trans (hb5.mono B4.size)
    have hx0 := keep_cell hb5 hx0
    have hx1 := keep_cell hb5 hx1
    clear ho4
    go_wp2_with fail
    generalize w4.alloc (.cells #[.int .i64 n, .slice a4 xs.length c4] 35) = W5 at *
    refine (himpl.out _ _ hp5.out).mono ?_
    rintro e w6 ⟨rfl, b6⟩
    have hx0 := keep_cell b6 hx0
    have hx1 := keep_cell b6 hx1
    have hy0 := keep_cell b6 hy0
    have hy1 := keep_cell b6 hy1
    have B6 := B5.trans (b6.mono B5.size)
    have hp5 := Lib.hid (hp5.out.below b6 (Nat.le_refl _))
    have hp6 := Lib.hid (hp.out.below B6 (Nat.le_refl _))
    have hn6 : xs.length ≤ 1048576 := by omega
    clear hb5 hp b1 b2 b3 b4 b6 B2 B3 B4 B5
    go_wp2_with fail
    go_region_held3 (fun W => Below w6.heap.size w6 W ∧ W.cell? ⟨w.heap.size, 0, none⟩ = some (.int .i64 n) ∧ W.cell? ⟨w.heap.size, 1, none⟩ = some (.slice a xs.length c) ∧ W.cell? ⟨w4.heap.size, 0, none⟩ = some (.int .i64 n) ∧ W.cell? ⟨w4.heap.size, 1, none⟩ = some (.slice a4 xs.length c4)) (first | (refine ⟨?_, ?_, ?_, ?_, ?_⟩ <;> (first | assumption | (exact Below.drew (Below.refl _ _)) | (exact Below.drew (by assumption)))) | assumption | (obtain ⟨hs1, hs2, hs3, hs4, hs5⟩ := ‹Below _ _ _ ∧ _ ∧ _ ∧ _ ∧ _›; exact ⟨keep_step (by assumption) hs1, keep_cell (by assumption) hs2, keep_cell (by assumption) hs3, keep_cell (by assumption) hs4, keep_cell (by assumption) hs5⟩)) (first | (go_at_call 19; refine (toModalAlgebra_any _ n xs _ (hp6.out.below (And.left ‹Below w6.heap.size w6 _ ∧ _ ∧ _ ∧ _ ∧ _›) (Nat.le_refl _)) hn6).mono ?_; rintro e w7 ⟨v7, rfl, ho7, hb'⟩) | (go_at_call 21; refine (eqModalAlgebra_same _ _ n xs _ (hp5.out.below (And.left ‹Below w6.heap.size w6 _ ∧ _ ∧ _ ∧ _ ∧ _›) (Nat.le_refl _)) (pair_of_own ho7)).mono ?_; rintro e w8 ⟨rfl, hb'⟩))
    all_goals
      go_wp2_with fail
      go_ret
      exact ⟨rfl, hba.trans (B6.trans ((And.left ‹Below w6.heap.size w6 _ ∧ _ ∧ _ ∧ _ ∧ _›).mono B6.size) |>.mono hba.size)⟩
end Go.Proofs.Ytjjnnlfcdncefaa
