/- The laws' own walks, from the contracts of what they call (written by walkgen2.py): ResolutionClosure. -/
import Derived.Test.YtobbhflajkhcdaaTurn
import Derived.Test.YtobbhflajkhcdaaInts
import Derived.Test.YtobbhflajkhcdaaIntSSRow
import Derived.Test.YtobbhflajkhcdaaIntSSOpen
import Derived.Test.YtobbhflajkhcdaaCloLaw
namespace Go.Proofs.Ytobbhflajkhcdaa
open Go.RowKit
set_option linter.unusedVariables false

set_option maxHeartbeats 2000000 in
theorem w_FnExactResolutionClosure (vp : Value) (p : List (List Int)) (w : World) (hp : Fi w vp p ∧ ∀ I ∈ p, ∀ x ∈ I, (Lit.int .i64 x).wf = true) :
    Calls Try.prog 3 #[vp] w fun e w' => e = .returned (.bool true) ∧ Below w.heap.size w w' := by
  obtain ⟨R, hR⟩ := cloR_ex p
  have hlen := cloR_tot hR
  have hp := hp.1
  have hvp := Lib.hid hp
  clear hp
  go_enter Try.func3, Try.ntmps3
  go_wp2_with fail
  refine (szInt64SS_any _ p _ _ hvp.out (by omega) (by omega)).mono ?_
  rintro e w' ⟨⟨zp, rfl, hzp⟩, rfl⟩
  rcases hzp with rfl | ⟨hzap, hzbp, hnp, hlp⟩
  · go_wp2_with fail
    go_ret
    exact ⟨rfl, Below.refl _ _⟩
  have htp := totI_cap hnp hlp
  have hlp := Lib.hid hlp
  go_wp2_with fail
  refine (toInt64SS_own _ p _ hvp.out hnp hlp.out).mono ?_
  rintro e w1 ⟨tp, rfl, otp, b1⟩
  have s1 := b1.size
  have B1 : Below w.heap.size w w1 := b1
  go_wp2_with fail
  refine (specResolutionClosure_any _ p _ otp.fs R hR hnp hlp.out).mono ?_
  rintro e w2 ⟨vw, rfl, fvw, b2⟩
  have otp := otp.below b2 (Nat.le_refl _)
  have Avw := Below.refl w2.heap.size w2
  have s2 := b2.size
  have B2 : Below w.heap.size w w2 := B1.trans (b2.mono B1.size)
  go_wp2_with fail
  refine (toInt64SS_own _ p _ (hvp.out.below B2 (Nat.le_refl _)) hnp hlp.out).mono ?_
  rintro e w3 ⟨xp, rfl, oxp, b3⟩
  have Avw := Avw.trans (b3.mono Avw.size)
  have s3 := b3.size
  have B3 : Below w.heap.size w w3 := B2.trans (b3.mono B2.size)
  go_wp2_with fail
  refine (implResolutionClosure_any _ p _ oxp.fs R hR hnp hlp.out).mono ?_
  rintro e w4 ⟨vg, rfl, ovg, b4⟩
  have Avw := Avw.trans (b4.mono Avw.size)
  have oxp := oxp.below b4 (Nat.le_refl _)
  have s4 := b4.size
  have B4 : Below w.heap.size w w4 := B3.trans (b4.mono B3.size)
  go_wp2_with fail
  refine (eqInt64SS_same _ _ R _ ovg.fs (fvw.below Avw (Nat.le_refl _))).mono ?_
  rintro e w5 ⟨rfl, b5⟩
  have Avw := Avw.trans (b5.mono Avw.size)
  have oxp := oxp.below b5 (Nat.le_refl _)
  have ovg := ovg.below b5 (Nat.le_refl _)
  have s5 := b5.size
  have B5 : Below w.heap.size w w5 := B4.trans (b5.mono B4.size)
  go_wp2_with fail
  refine (toInt64SS_own _ p _ (hvp.out.below B5 (Nat.le_refl _)) hnp hlp.out).mono ?_
  rintro e w6 ⟨yp, rfl, oyp, b6⟩
  have Avw := Avw.trans (b6.mono Avw.size)
  have oxp := oxp.below b6 (Nat.le_refl _)
  have ovg := ovg.below b6 (Nat.le_refl _)
  have s6 := b6.size
  have B6 : Below w.heap.size w w6 := B5.trans (b6.mono B5.size)
  go_wp2_with fail
  refine (eqInt64SS_same _ _ p _ oxp.fs oyp.fs).mono ?_
  rintro e w7 ⟨rfl, b7⟩
  have Avw := Avw.trans (b7.mono Avw.size)
  have oxp := oxp.below b7 (Nat.le_refl _)
  have ovg := ovg.below b7 (Nat.le_refl _)
  have oyp := oyp.below b7 (Nat.le_refl _)
  have s7 := b7.size
  have B7 : Below w.heap.size w w7 := B6.trans (b7.mono B6.size)
  go_wp2_with fail
  refine (markInt64SS_any _ _ _ p _ _ oxp (by omega) (by omega)).mono ?_
  rintro e w8 ⟨rfl, omxp, t8⟩
  have Avw := Avw.trans (t8.below (by omega) (by omega))
  have ovg := ovg.turned t8 (by omega)
  have s8 := t8.size
  have B8 : Below w.heap.size w w8 := B7.trans (t8.below (by omega) (by omega))
  have oxp := omxp
  clear omxp
  go_wp2_with fail
  refine (eqInt64SS_same _ _ R _ ovg.fs (fvw.below Avw (Nat.le_refl _))).mono ?_
  rintro e w9 ⟨rfl, b9⟩
  have Avw := Avw.trans (b9.mono Avw.size)
  have ovg := ovg.below b9 (Nat.le_refl _)
  have s9 := b9.size
  have B9 : Below w.heap.size w w9 := B8.trans (b9.mono B8.size)
  go_wp2_with fail
  refine (markInt64SS_any _ _ _ R _ _ ovg (by omega) (by omega)).mono ?_
  rintro e w10 ⟨rfl, omvg, t10⟩
  have Avw := Avw.trans (t10.below (by omega) (by omega))
  have s10 := t10.size
  have B10 : Below w.heap.size w w10 := B9.trans (t10.below (by omega) (by omega))
  have ovg := omvg
  clear omvg
  go_wp2_with fail
  refine (heldInt64SS_any _ R _ _ ovg.fs (by omega) (by omega)).mono ?_
  rintro e w11 ⟨rfl, b11⟩
  have Avw := Avw.trans (b11.mono Avw.size)
  have ovg := ovg.below b11 (Nat.le_refl _)
  have s11 := b11.size
  have B11 : Below w.heap.size w w11 := B10.trans (b11.mono B10.size)
  go_wp2_with fail
  refine (toInt64SS_own _ p _ (hvp.out.below B11 (Nat.le_refl _)) hnp hlp.out).mono ?_
  rintro e w12 ⟨zp, rfl, ozp, b12⟩
  have Avw := Avw.trans (b12.mono Avw.size)
  have ovg := ovg.below b12 (Nat.le_refl _)
  have s12 := b12.size
  have B12 : Below w.heap.size w w12 := B11.trans (b12.mono B11.size)
  go_wp2_with fail
  refine (implResolutionClosure_any _ p _ ozp.fs R hR hnp hlp.out).mono ?_
  rintro e w13 ⟨vh, rfl, ovh, b13⟩
  have Avw := Avw.trans (b13.mono Avw.size)
  have ovg := ovg.below b13 (Nat.le_refl _)
  have ozp := ozp.below b13 (Nat.le_refl _)
  have s13 := b13.size
  have B13 : Below w.heap.size w w13 := B12.trans (b13.mono B12.size)
  go_wp2_with fail
  refine (eqInt64SS_same _ _ R _ ovh.fs (fvw.below Avw (Nat.le_refl _))).mono ?_
  rintro e w14 ⟨rfl, b14⟩
  have Avw := Avw.trans (b14.mono Avw.size)
  have ovg := ovg.below b14 (Nat.le_refl _)
  have ovh := ovh.below b14 (Nat.le_refl _)
  have s14 := b14.size
  have B14 : Below w.heap.size w w14 := B13.trans (b14.mono B13.size)
  go_wp2_with fail
  refine (heldInt64SS_any _ R _ _ ovg.fs (by omega) (by omega)).mono ?_
  rintro e w15 ⟨rfl, b15⟩
  have Avw := Avw.trans (b15.mono Avw.size)
  have ovg := ovg.below b15 (Nat.le_refl _)
  have ovh := ovh.below b15 (Nat.le_refl _)
  have s15 := b15.size
  have B15 : Below w.heap.size w w15 := B14.trans (b15.mono B14.size)
  go_wp2_with fail
  go_ret
  exact ⟨rfl, B15⟩
end Go.Proofs.Ytobbhflajkhcdaa
