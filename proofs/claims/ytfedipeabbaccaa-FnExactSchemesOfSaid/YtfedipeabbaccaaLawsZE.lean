/- The laws' own walks, from the contracts of what they call (written by walkgen2.py): SchemesOf. -/
import Derived.Test.YtfedipeabbaccaaTurn
import Derived.Test.YtfedipeabbaccaaSchemesTwo
namespace Go.Proofs.Ytfedipeabbaccaa
open Go.RowKit
set_option linter.unusedVariables false

set_option maxHeartbeats 2000000 in
theorem w_FnExactSchemesOf (s : ByteArray) (w : World) (_hs : s.size ≤ maxLen) :
    Calls Try.prog 5 #[.string s] w fun e w' => e = .returned (.bool true) ∧ Below w.heap.size w w' := by
  have hlen := schR_length s
  go_enter Try.func5, Try.ntmps5
  unfold maxLen at _hs
  by_cases hls : 1048576 < s.size
  · go_wp2_with fail
    go_ret
    exact ⟨rfl, Below.refl _ _⟩
  go_wp2_with fail
  refine (specSchemesOf_any _ _ ).mono ?_
  rintro e w1 ⟨vw, rfl, ovw, b1⟩
  have lvw := own_lt ovw
  have s1 := b1.size
  have B1 : Below w.heap.size w w1 := b1
  go_wp2_with fail
  refine (implSchemesOf_any _ _ ).mono ?_
  rintro e w2 ⟨vg, rfl, ovg, b2⟩
  have ovw := own_below ovw b2 (Nat.le_refl _)
  have lvg := own_lt ovg
  have s2 := b2.size
  have B2 : Below w.heap.size w w2 := B1.trans (b2.mono B1.size)
  go_wp2_with fail
  refine (eqInt64S_same _ _ (schR s) _ (ints_of_own ovg) (ints_of_own ovw)).mono ?_
  rintro e w3 ⟨rfl, b3⟩
  have ovw := own_below ovw b3 (Nat.le_refl _)
  have ovg := own_below ovg b3 (Nat.le_refl _)
  have s3 := b3.size
  have B3 : Below w.heap.size w w3 := B2.trans (b3.mono B2.size)
  go_wp2_with fail
  refine (markInt64S_any _ _ _ _ _ _ ovg (by omega) (by omega)).mono ?_
  rintro e w4 ⟨rfl, omvg, g4⟩
  have t4 : Turned w1.heap.size w2.heap.size w3 w4 := Turned.of_grown g4 fun k hk => ⟨(ovg.lt k hk).1, lvg k hk⟩
  have ovw := turned_row ovw lvw t4 (by omega)
  have s4 := t4.size
  have B4 : Below w.heap.size w w4 := B3.trans (t4.below (by omega) (by omega))
  have ovg := omvg
  clear omvg
  go_wp2_with fail
  refine (heldInt64S_any _ _ _ _ (ints_of_own ovg) (by omega) (by omega)).mono ?_
  rintro e w5 ⟨rfl, b5⟩
  have ovw := own_below ovw b5 (Nat.le_refl _)
  have ovg := own_below ovg b5 (Nat.le_refl _)
  have s5 := b5.size
  have B5 : Below w.heap.size w w5 := B4.trans (b5.mono B4.size)
  go_wp2_with fail
  refine (implSchemesOf_any _ _ ).mono ?_
  rintro e w6 ⟨vh, rfl, ovh, b6⟩
  have ovw := own_below ovw b6 (Nat.le_refl _)
  have ovg := own_below ovg b6 (Nat.le_refl _)
  have lvh := own_lt ovh
  have s6 := b6.size
  have B6 : Below w.heap.size w w6 := B5.trans (b6.mono B5.size)
  go_wp2_with fail
  refine (eqInt64S_same _ _ (schR s) _ (ints_of_own ovh) (ints_of_own ovw)).mono ?_
  rintro e w7 ⟨rfl, b7⟩
  have ovw := own_below ovw b7 (Nat.le_refl _)
  have ovg := own_below ovg b7 (Nat.le_refl _)
  have ovh := own_below ovh b7 (Nat.le_refl _)
  have s7 := b7.size
  have B7 : Below w.heap.size w w7 := B6.trans (b7.mono B6.size)
  go_wp2_with fail
  refine (heldInt64S_any _ _ _ _ (ints_of_own ovg) (by omega) (by omega)).mono ?_
  rintro e w8 ⟨rfl, b8⟩
  have ovw := own_below ovw b8 (Nat.le_refl _)
  have ovg := own_below ovg b8 (Nat.le_refl _)
  have ovh := own_below ovh b8 (Nat.le_refl _)
  have s8 := b8.size
  have B8 : Below w.heap.size w w8 := B7.trans (b8.mono B7.size)
  go_wp2_with fail
  go_ret
  exact ⟨rfl, B8⟩
end Go.Proofs.Ytfedipeabbaccaa
