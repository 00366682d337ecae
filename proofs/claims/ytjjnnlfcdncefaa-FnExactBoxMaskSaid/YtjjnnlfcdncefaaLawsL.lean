/- The laws' own walks, from the contracts of what they call (written by walkgen.py): ImageMask, BoxMask. -/
import Derived.Test.YtjjnnlfcdncefaaRels
namespace Go.Proofs.Ytjjnnlfcdncefaa
open Go.RowKit
set_option linter.unusedVariables false

set_option maxHeartbeats 1000000 in
theorem w_FnExactImageMask (vxs : Value) (xs : List Int) (m : Int) (w : World) (hxs : Ints w vxs xs) (_zxs : ∀ x ∈ xs, (Lit.int .i64 x).wf = true) (_hm : (Lit.int .i64 m).wf = true) :
    Calls Try.prog 9 #[vxs, .int .i64 m] w fun e w' => e = .returned (.bool true) ∧ Below w.heap.size w w' := by
  have hcxs := hxs.cap
  unfold maxLen at hcxs
  have hqxs := hxs
  obtain ⟨_, axs, cxs, bxs, oxs, rfl, _⟩ := hxs.opened
  have hvxs := Lib.hid hqxs
  clear hxs hqxs
  by_cases hlxs : 1048576 < xs.length
  · go_enter Try.func9, Try.ntmps9
    go_wp2_with fail
    go_ret
    exact ⟨rfl, Below.refl _ _⟩
  go_enter Try.func9, Try.ntmps9
  go_wp2_with fail
  refine (toInt64S_any _ xs _ hvxs.out (by omega)).mono ?_
  rintro e w1 ⟨txs, rfl, otxs, b1⟩
  have ltxs := own_lt otxs
  have s1 := b1.size
  have B1 : Below w.heap.size w w1 := b1
  go_wp2_with fail
  refine (specImageMask_any _ xs _ _ (ints_of_own otxs)).mono ?_
  rintro e w2 ⟨rfl, b2⟩
  have otxs := own_below otxs b2 (Nat.le_refl _)
  have s2 := b2.size
  have B2 : Below w.heap.size w w2 := B1.trans (b2.mono B1.size)
  go_wp2_with fail
  refine (toInt64S_any _ xs _ (hvxs.out.below B2 (Nat.le_refl _)) (by omega)).mono ?_
  rintro e w3 ⟨xxs, rfl, oxxs, b3⟩
  have lxxs := own_lt oxxs
  have s3 := b3.size
  have B3 : Below w.heap.size w w3 := B2.trans (b3.mono B2.size)
  go_wp2_with fail
  refine (implImageMask_any _ xs _ _ (ints_of_own oxxs)).mono ?_
  rintro e w4 ⟨rfl, b4⟩
  have oxxs := own_below oxxs b4 (Nat.le_refl _)
  have s4 := b4.size
  have B4 : Below w.heap.size w w4 := B3.trans (b4.mono B3.size)
  go_wp2_with fail
  refine (toInt64S_any _ xs _ (hvxs.out.below B4 (Nat.le_refl _)) (by omega)).mono ?_
  rintro e w5 ⟨yxs, rfl, oyxs, b5⟩
  have oxxs := own_below oxxs b5 (Nat.le_refl _)
  have lyxs := own_lt oyxs
  have s5 := b5.size
  have B5 : Below w.heap.size w w5 := B4.trans (b5.mono B4.size)
  go_wp2_with fail
  refine (eqInt64S_same _ _ xs _ (ints_of_own oxxs) (ints_of_own oyxs)).mono ?_
  rintro e w6 ⟨rfl, b6⟩
  have oxxs := own_below oxxs b6 (Nat.le_refl _)
  have oyxs := own_below oyxs b6 (Nat.le_refl _)
  have s6 := b6.size
  have B6 : Below w.heap.size w w6 := B5.trans (b6.mono B5.size)
  go_wp2_with fail
  go_ret
  exact ⟨rfl, B6⟩

set_option maxHeartbeats 1000000 in
theorem w_FnExactBoxMask (vxs : Value) (xs : List Int) (m : Int) (w : World) (hxs : Ints w vxs xs) (_zxs : ∀ x ∈ xs, (Lit.int .i64 x).wf = true) (_hm : (Lit.int .i64 m).wf = true) :
    Calls Try.prog 7 #[vxs, .int .i64 m] w fun e w' => e = .returned (.bool true) ∧ Below w.heap.size w w' := by
  have hcxs := hxs.cap
  unfold maxLen at hcxs
  have hqxs := hxs
  obtain ⟨_, axs, cxs, bxs, oxs, rfl, _⟩ := hxs.opened
  have hvxs := Lib.hid hqxs
  clear hxs hqxs
  by_cases hlxs : 1048576 < xs.length
  · go_enter Try.func7, Try.ntmps7
    go_wp2_with fail
    go_ret
    exact ⟨rfl, Below.refl _ _⟩
  go_enter Try.func7, Try.ntmps7
  go_wp2_with fail
  refine (toInt64S_any _ xs _ hvxs.out (by omega)).mono ?_
  rintro e w1 ⟨txs, rfl, otxs, b1⟩
  have ltxs := own_lt otxs
  have s1 := b1.size
  have B1 : Below w.heap.size w w1 := b1
  go_wp2_with fail
  refine (specBoxMask_any _ xs _ _ (ints_of_own otxs)).mono ?_
  rintro e w2 ⟨rfl, b2⟩
  have otxs := own_below otxs b2 (Nat.le_refl _)
  have s2 := b2.size
  have B2 : Below w.heap.size w w2 := B1.trans (b2.mono B1.size)
  go_wp2_with fail
  refine (toInt64S_any _ xs _ (hvxs.out.below B2 (Nat.le_refl _)) (by omega)).mono ?_
  rintro e w3 ⟨xxs, rfl, oxxs, b3⟩
  have lxxs := own_lt oxxs
  have s3 := b3.size
  have B3 : Below w.heap.size w w3 := B2.trans (b3.mono B2.size)
  go_wp2_with fail
  refine (implBoxMask_any _ xs _ _ (ints_of_own oxxs)).mono ?_
  rintro e w4 ⟨rfl, b4⟩
  have oxxs := own_below oxxs b4 (Nat.le_refl _)
  have s4 := b4.size
  have B4 : Below w.heap.size w w4 := B3.trans (b4.mono B3.size)
  go_wp2_with fail
  refine (toInt64S_any _ xs _ (hvxs.out.below B4 (Nat.le_refl _)) (by omega)).mono ?_
  rintro e w5 ⟨yxs, rfl, oyxs, b5⟩
  have oxxs := own_below oxxs b5 (Nat.le_refl _)
  have lyxs := own_lt oyxs
  have s5 := b5.size
  have B5 : Below w.heap.size w w5 := B4.trans (b5.mono B4.size)
  go_wp2_with fail
  refine (eqInt64S_same _ _ xs _ (ints_of_own oxxs) (ints_of_own oyxs)).mono ?_
  rintro e w6 ⟨rfl, b6⟩
  have oxxs := own_below oxxs b6 (Nat.le_refl _)
  have oyxs := own_below oyxs b6 (Nat.le_refl _)
  have s6 := b6.size
  have B6 : Below w.heap.size w w6 := B5.trans (b6.mono B5.size)
  go_wp2_with fail
  go_ret
  exact ⟨rfl, B6⟩
end Go.Proofs.Ytjjnnlfcdncefaa
