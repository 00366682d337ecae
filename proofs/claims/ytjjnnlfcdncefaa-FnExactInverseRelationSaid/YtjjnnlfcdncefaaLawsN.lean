/- The laws' own walks, from the contracts of what they call (written by walkgen.py): InverseRelation. -/
import Derived.Test.YtjjnnlfcdncefaaRelsThree
namespace Go.Proofs.Ytjjnnlfcdncefaa
open Go.RowKit
set_option linter.unusedVariables false

set_option maxHeartbeats 1000000 in
theorem w_FnExactInverseRelation (vxs : Value) (xs : List Int) (w : World) (hxs : Ints w vxs xs) (_zxs : ∀ x ∈ xs, (Lit.int .i64 x).wf = true) :
    Calls Try.prog 8 #[vxs] w fun e w' => e = .returned (.bool true) ∧ Below w.heap.size w w' := by
  have hcxs := hxs.cap
  unfold maxLen at hcxs
  have hqxs := hxs
  obtain ⟨_, axs, cxs, bxs, oxs, rfl, _⟩ := hxs.opened
  have hvxs := Lib.hid hqxs
  clear hxs hqxs
  have hlen := invRR_length xs
  by_cases hlxs : 1048576 < xs.length
  · go_enter Try.func8, Try.ntmps8
    go_wp2_with fail
    go_ret
    exact ⟨rfl, Below.refl _ _⟩
  go_enter Try.func8, Try.ntmps8
  go_wp2_with fail
  refine (toInt64S_any _ xs _ hvxs.out (by omega)).mono ?_
  rintro e w1 ⟨txs, rfl, otxs, b1⟩
  have ltxs := own_lt otxs
  have s1 := b1.size
  have B1 : Below w.heap.size w w1 := b1
  go_wp2_with fail
  refine (specInverseRelation_any _ xs _ (ints_of_own otxs)).mono ?_
  rintro e w2 ⟨vw, rfl, ovw, b2⟩
  have otxs := own_below otxs b2 (Nat.le_refl _)
  have lvw := own_lt ovw
  have s2 := b2.size
  have B2 : Below w.heap.size w w2 := B1.trans (b2.mono B1.size)
  go_wp2_with fail
  refine (toInt64S_any _ xs _ (hvxs.out.below B2 (Nat.le_refl _)) (by omega)).mono ?_
  rintro e w3 ⟨xxs, rfl, oxxs, b3⟩
  have ovw := own_below ovw b3 (Nat.le_refl _)
  have lxxs := own_lt oxxs
  have s3 := b3.size
  have B3 : Below w.heap.size w w3 := B2.trans (b3.mono B2.size)
  go_wp2_with fail
  refine (implInverseRelation_any _ xs _ (ints_of_own oxxs)).mono ?_
  rintro e w4 ⟨vg, rfl, ovg, b4⟩
  have ovw := own_below ovw b4 (Nat.le_refl _)
  have oxxs := own_below oxxs b4 (Nat.le_refl _)
  have lvg := own_lt ovg
  have s4 := b4.size
  have B4 : Below w.heap.size w w4 := B3.trans (b4.mono B3.size)
  go_wp2_with fail
  refine (eqInt64S_same _ _ (invRR xs) _ (ints_of_own ovg) (ints_of_own ovw)).mono ?_
  rintro e w5 ⟨rfl, b5⟩
  have ovw := own_below ovw b5 (Nat.le_refl _)
  have oxxs := own_below oxxs b5 (Nat.le_refl _)
  have ovg := own_below ovg b5 (Nat.le_refl _)
  have s5 := b5.size
  have B5 : Below w.heap.size w w5 := B4.trans (b5.mono B4.size)
  go_wp2_with fail
  refine (toInt64S_any _ xs _ (hvxs.out.below B5 (Nat.le_refl _)) (by omega)).mono ?_
  rintro e w6 ⟨yxs, rfl, oyxs, b6⟩
  have ovw := own_below ovw b6 (Nat.le_refl _)
  have oxxs := own_below oxxs b6 (Nat.le_refl _)
  have ovg := own_below ovg b6 (Nat.le_refl _)
  have lyxs := own_lt oyxs
  have s6 := b6.size
  have B6 : Below w.heap.size w w6 := B5.trans (b6.mono B5.size)
  go_wp2_with fail
  refine (eqInt64S_same _ _ xs _ (ints_of_own oxxs) (ints_of_own oyxs)).mono ?_
  rintro e w7 ⟨rfl, b7⟩
  have ovw := own_below ovw b7 (Nat.le_refl _)
  have oxxs := own_below oxxs b7 (Nat.le_refl _)
  have ovg := own_below ovg b7 (Nat.le_refl _)
  have oyxs := own_below oyxs b7 (Nat.le_refl _)
  have s7 := b7.size
  have B7 : Below w.heap.size w w7 := B6.trans (b7.mono B6.size)
  go_wp2_with fail
  refine (markInt64S_any _ _ _ _ _ _ oxxs (by omega) (by omega)).mono ?_
  rintro e w8 ⟨rfl, omxxs, g8⟩
  have ovw := own_apart ovw oxxs (fun k hk => Nat.lt_of_lt_of_le (lvw k hk) (by omega)) g8
  have ovg := own_apart2 ovg (fun k hk => Nat.lt_of_lt_of_le (lxxs k hk) (by omega)) g8
  have s8 := g8.size
  have B8 : Below w.heap.size w w8 := B7.trans (below_mark oxxs g8 (by omega) (by omega))
  have oxxs := omxxs
  clear omxxs
  go_wp2_with fail
  refine (eqInt64S_same _ _ (invRR xs) _ (ints_of_own ovg) (ints_of_own ovw)).mono ?_
  rintro e w9 ⟨rfl, b9⟩
  have ovw := own_below ovw b9 (Nat.le_refl _)
  have ovg := own_below ovg b9 (Nat.le_refl _)
  have s9 := b9.size
  have B9 : Below w.heap.size w w9 := B8.trans (b9.mono B8.size)
  go_wp2_with fail
  refine (markInt64S_any _ _ _ _ _ _ ovg (by omega) (by omega)).mono ?_
  rintro e w10 ⟨rfl, omvg, g10⟩
  have ovw := own_apart ovw ovg (fun k hk => Nat.lt_of_lt_of_le (lvw k hk) (by omega)) g10
  have s10 := g10.size
  have B10 : Below w.heap.size w w10 := B9.trans (below_mark ovg g10 (by omega) (by omega))
  have ovg := omvg
  clear omvg
  go_wp2_with fail
  refine (heldInt64S_any _ _ _ _ (ints_of_own ovg) (by omega) (by omega)).mono ?_
  rintro e w11 ⟨rfl, b11⟩
  have ovw := own_below ovw b11 (Nat.le_refl _)
  have ovg := own_below ovg b11 (Nat.le_refl _)
  have s11 := b11.size
  have B11 : Below w.heap.size w w11 := B10.trans (b11.mono B10.size)
  go_wp2_with fail
  refine (toInt64S_any _ xs _ (hvxs.out.below B11 (Nat.le_refl _)) (by omega)).mono ?_
  rintro e w12 ⟨zxs, rfl, ozxs, b12⟩
  have ovw := own_below ovw b12 (Nat.le_refl _)
  have ovg := own_below ovg b12 (Nat.le_refl _)
  have lzxs := own_lt ozxs
  have s12 := b12.size
  have B12 : Below w.heap.size w w12 := B11.trans (b12.mono B11.size)
  go_wp2_with fail
  refine (implInverseRelation_any _ xs _ (ints_of_own ozxs)).mono ?_
  rintro e w13 ⟨vh, rfl, ovh, b13⟩
  have ovw := own_below ovw b13 (Nat.le_refl _)
  have ovg := own_below ovg b13 (Nat.le_refl _)
  have ozxs := own_below ozxs b13 (Nat.le_refl _)
  have lvh := own_lt ovh
  have s13 := b13.size
  have B13 : Below w.heap.size w w13 := B12.trans (b13.mono B12.size)
  go_wp2_with fail
  refine (eqInt64S_same _ _ (invRR xs) _ (ints_of_own ovh) (ints_of_own ovw)).mono ?_
  rintro e w14 ⟨rfl, b14⟩
  have ovw := own_below ovw b14 (Nat.le_refl _)
  have ovg := own_below ovg b14 (Nat.le_refl _)
  have ovh := own_below ovh b14 (Nat.le_refl _)
  have s14 := b14.size
  have B14 : Below w.heap.size w w14 := B13.trans (b14.mono B13.size)
  go_wp2_with fail
  refine (heldInt64S_any _ _ _ _ (ints_of_own ovg) (by omega) (by omega)).mono ?_
  rintro e w15 ⟨rfl, b15⟩
  have ovw := own_below ovw b15 (Nat.le_refl _)
  have ovg := own_below ovg b15 (Nat.le_refl _)
  have ovh := own_below ovh b15 (Nat.le_refl _)
  have s15 := b15.size
  have B15 : Below w.heap.size w w15 := B14.trans (b15.mono B14.size)
  go_wp2_with fail
  go_ret
  exact ⟨rfl, B15⟩
end Go.Proofs.Ytjjnnlfcdncefaa
