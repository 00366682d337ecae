/- The law's own walk, from the contracts of what it calls: FirstBadResolvent. -/
import Derived.Test.YtggelkhfkhbgmaaIntSSRow
import Derived.Test.YtggelkhfkhbgmaaFbFineIn
import Derived.Test.YtggelkhfkhbgmaaStpOpen
namespace Go.Proofs.Ytggelkhfkhbgmaa
open Go.RowKit
set_option linter.unusedVariables false

set_option maxHeartbeats 4000000 in
theorem w_FnExactFirstBadResolvent (vp : Value) (p : List (List Int)) (vq : Value) (q : List Stp) (w : World) (hp : Fi w vp p ∧ ∀ I ∈ p, ∀ x ∈ I, (Lit.int .i64 x).wf = true) (hq : Steps w vq q) :
    Calls Try.prog 4 #[vp, vq] w fun e w' => e = .returned (.bool true) ∧ Below w.heap.size w w' := by
  have hvp := Lib.hid hp.1
  have hvq := Lib.hid hq
  clear hp hq
  go_enter Try.func4, Try.ntmps4
  go_wp2_with fail
  refine (szInt64SS_any _ p _ _ hvp.out (by omega) (by omega)).mono ?_
  rintro e w' ⟨⟨zp, rfl, hzp⟩, rfl⟩
  rcases hzp with rfl | ⟨hzap, hzbp, hnp, hlp⟩
  · go_wp2_with fail
    go_ret
    exact ⟨rfl, Below.refl _ _⟩
  have hlp := Lib.hid hlp
  go_wp2_with fail
  refine (szResolventS_any _ q _ _ hvq.out (by omega) (by omega)).mono ?_
  rintro e w1 ⟨⟨zq, rfl, hzq⟩, B1⟩
  rcases hzq with rfl | ⟨hzaq, hzbq, hnq, hlq⟩
  · go_wp2_with fail
    go_ret
    exact ⟨rfl, B1⟩
  have hlq := Lib.hid hlq
  go_wp2_with fail
  refine (toInt64SS_own _ p _ (hvp.out.below B1 (Nat.le_refl _)) hnp hlp.out).mono ?_
  rintro e w2 ⟨tp, rfl, otp, b2⟩
  have B2 := keep_step b2 B1
  have ftp := Lib.hid otp.fs
  clear otp
  go_wp2_with fail
  refine (toResolventS_any _ q _ (hvq.out.below B2 (Nat.le_refl _)) hnq hlq.out).mono ?_
  rintro e w3 ⟨tq, rfl, ftq, b3⟩
  have B3 := keep_step b3 B2
  have ftq := Lib.hid ftq
  go_wp2_with fail
  refine (specFirstBad_any _ _ p q _ (ftp.out.below b3 (Nat.le_refl _)) ftq.out hnq).mono ?_
  rintro e w4 ⟨x, rfl, hx, b4⟩
  have B4 := keep_step b4 B3
  go_wp2_with fail
  refine (toInt64SS_own _ p _ (hvp.out.below B4 (Nat.le_refl _)) hnp hlp.out).mono ?_
  rintro e w5 ⟨xp, rfl, oxp, b5⟩
  have B5 := keep_step b5 B4
  have fxp := Lib.hid oxp.fs
  clear oxp
  go_wp2_with fail
  refine (toResolventS_any _ q _ (hvq.out.below B5 (Nat.le_refl _)) hnq hlq.out).mono ?_
  rintro e w6 ⟨xq, rfl, fxq, b6⟩
  have B6 := keep_step b6 B5
  have fxq := Lib.hid fxq
  have fxp := Lib.hid (fxp.out.below b6 (Nat.le_refl _))
  go_wp2_with fail
  refine (implFirstBad_any _ _ p q _ fxp.out fxq.out hnq).mono ?_
  rintro e w7 ⟨y, rfl, hy, b7⟩
  have B7 := keep_step b7 B6
  obtain rfl : x = y := fbX_one hx.out hy.out
  clear hx hy
  have fxp := Lib.hid (fxp.out.below b7 (Nat.le_refl _))
  have fxq := Lib.hid (fxq.out.below b7 (Nat.le_refl _))
  go_wp2_with fail
  refine (toInt64SS_own _ p _ (hvp.out.below B7 (Nat.le_refl _)) hnp hlp.out).mono ?_
  rintro e w8 ⟨yp, rfl, oyp, b8⟩
  have B8 := keep_step b8 B7
  have fxp := Lib.hid (fxp.out.below b8 (Nat.le_refl _))
  have fxq := Lib.hid (fxq.out.below b8 (Nat.le_refl _))
  have fyp := Lib.hid oyp.fs
  clear oyp
  go_wp2_with fail
  refine (eqInt64SS_same _ _ p _ fxp.out fyp.out).mono ?_
  rintro e w9 ⟨rfl, b9⟩
  have B9 := keep_step b9 B8
  have fxq := Lib.hid (fxq.out.below b9 (Nat.le_refl _))
  go_wp2_with fail
  refine (toResolventS_any _ q _ (hvq.out.below B9 (Nat.le_refl _)) hnq hlq.out).mono ?_
  rintro e w10 ⟨yq, rfl, fyq, b10⟩
  have B10 := keep_step b10 B9
  have fyq := Lib.hid fyq
  have fxq := Lib.hid (fxq.out.below b10 (Nat.le_refl _))
  go_wp2_with fail
  refine (eqResolventS_same _ _ q _ fxq.out fyq.out).mono ?_
  rintro e w11 ⟨rfl, b11⟩
  have B11 := keep_step b11 B10
  go_wp2_with fail
  go_ret
  exact ⟨rfl, B11⟩
end Go.Proofs.Ytggelkhfkhbgmaa
