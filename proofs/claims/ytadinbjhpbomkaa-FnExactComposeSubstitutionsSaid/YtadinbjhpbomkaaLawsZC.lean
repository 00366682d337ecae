/- The laws' own walks, from the contracts of what they call (written by walkgen2.py): ComposeSubstitutions. -/
import Derived.Test.YtadinbjhpbomkaaComposeTwo
namespace Go.Proofs.Ytadinbjhpbomkaa
open Go.RowKit
set_option linter.unusedVariables false

set_option maxHeartbeats 2000000 in
theorem w_FnExactComposeSubstitutions (vIs : Value) (Is : List (List Nd)) (vJs : Value) (Js : List (List Nd)) (w : World) (hIs : Fs w vIs Is) (hJs : Fs w vJs Js) :
    Calls Try.prog 6 #[vIs, vJs] w fun e w' => e = .returned (.bool true) ∧ Below w.heap.size w w' := by
  have hlen := cpR_tot Is Js
  have hvIs := Lib.hid hIs
  clear hIs
  have hvJs := Lib.hid hJs
  clear hJs
  go_enter Try.func6, Try.ntmps6
  go_wp2_with fail
  refine (szNodeSS_any _ Is _ _ hvIs.out (by omega) (by omega)).mono ?_
  rintro e w' ⟨⟨zIs, rfl, hzIs⟩, rfl⟩
  rcases hzIs with rfl | ⟨hzaIs, hzbIs, hnIs, hlIs⟩
  · go_wp2_with fail
    go_ret
    exact ⟨rfl, Below.refl _ _⟩
  have htIs := tot_cap hnIs hlIs
  have hlIs := Lib.hid hlIs
  go_wp2_with fail
  refine (szNodeSS_any _ Js _ _ hvJs.out (by omega) (by omega)).mono ?_
  rintro e w' ⟨⟨zJs, rfl, hzJs⟩, rfl⟩
  rcases hzJs with rfl | ⟨hzaJs, hzbJs, hnJs, hlJs⟩
  · go_wp2_with fail
    go_ret
    exact ⟨rfl, Below.refl _ _⟩
  have htJs := tot_cap hnJs hlJs
  have hlJs := Lib.hid hlJs
  go_wp2_with fail
  refine (toNodeSS_own _ Is _ hvIs.out hnIs hlIs.out).mono ?_
  rintro e w1 ⟨tIs, rfl, otIs, b1⟩
  have s1 := b1.size
  have B1 : Below w.heap.size w w1 := b1
  go_wp2_with fail
  refine (toNodeSS_own _ Js _ (hvJs.out.below B1 (Nat.le_refl _)) hnJs hlJs.out).mono ?_
  rintro e w2 ⟨tJs, rfl, otJs, b2⟩
  have otIs := otIs.below b2 (Nat.le_refl _)
  have s2 := b2.size
  have B2 : Below w.heap.size w w2 := B1.trans (b2.mono B1.size)
  go_wp2_with fail
  refine (specComposeSubstitutions_any _ Is _ Js _ otIs.fs otJs.fs).mono ?_
  rintro e w3 ⟨vw, rfl, fvw, b3⟩
  have otIs := otIs.below b3 (Nat.le_refl _)
  have otJs := otJs.below b3 (Nat.le_refl _)
  have Avw := Below.refl w3.heap.size w3
  have s3 := b3.size
  have B3 : Below w.heap.size w w3 := B2.trans (b3.mono B2.size)
  go_wp2_with fail
  refine (toNodeSS_own _ Is _ (hvIs.out.below B3 (Nat.le_refl _)) hnIs hlIs.out).mono ?_
  rintro e w4 ⟨xIs, rfl, oxIs, b4⟩
  have Avw := Avw.trans (b4.mono Avw.size)
  have s4 := b4.size
  have B4 : Below w.heap.size w w4 := B3.trans (b4.mono B3.size)
  go_wp2_with fail
  refine (toNodeSS_own _ Js _ (hvJs.out.below B4 (Nat.le_refl _)) hnJs hlJs.out).mono ?_
  rintro e w5 ⟨xJs, rfl, oxJs, b5⟩
  have Avw := Avw.trans (b5.mono Avw.size)
  have oxIs := oxIs.below b5 (Nat.le_refl _)
  have s5 := b5.size
  have B5 : Below w.heap.size w w5 := B4.trans (b5.mono B4.size)
  go_wp2_with fail
  refine (implComposeSubstitutions_any _ Is _ Js _ oxIs.fs oxJs.fs).mono ?_
  rintro e w6 ⟨vg, rfl, ovg, b6⟩
  have Avw := Avw.trans (b6.mono Avw.size)
  have oxIs := oxIs.below b6 (Nat.le_refl _)
  have oxJs := oxJs.below b6 (Nat.le_refl _)
  have s6 := b6.size
  have B6 : Below w.heap.size w w6 := B5.trans (b6.mono B5.size)
  go_wp2_with fail
  refine (eqNodeSS_same _ _ (cpR Is Js) _ ovg.fs (fvw.below Avw (Nat.le_refl _))).mono ?_
  rintro e w7 ⟨rfl, b7⟩
  have Avw := Avw.trans (b7.mono Avw.size)
  have oxIs := oxIs.below b7 (Nat.le_refl _)
  have oxJs := oxJs.below b7 (Nat.le_refl _)
  have ovg := ovg.below b7 (Nat.le_refl _)
  have s7 := b7.size
  have B7 : Below w.heap.size w w7 := B6.trans (b7.mono B6.size)
  go_wp2_with fail
  refine (toNodeSS_own _ Is _ (hvIs.out.below B7 (Nat.le_refl _)) hnIs hlIs.out).mono ?_
  rintro e w8 ⟨yIs, rfl, oyIs, b8⟩
  have Avw := Avw.trans (b8.mono Avw.size)
  have oxIs := oxIs.below b8 (Nat.le_refl _)
  have oxJs := oxJs.below b8 (Nat.le_refl _)
  have ovg := ovg.below b8 (Nat.le_refl _)
  have s8 := b8.size
  have B8 : Below w.heap.size w w8 := B7.trans (b8.mono B7.size)
  go_wp2_with fail
  refine (eqNodeSS_same _ _ Is _ oxIs.fs oyIs.fs).mono ?_
  rintro e w9 ⟨rfl, b9⟩
  have Avw := Avw.trans (b9.mono Avw.size)
  have oxIs := oxIs.below b9 (Nat.le_refl _)
  have oxJs := oxJs.below b9 (Nat.le_refl _)
  have ovg := ovg.below b9 (Nat.le_refl _)
  have oyIs := oyIs.below b9 (Nat.le_refl _)
  have s9 := b9.size
  have B9 : Below w.heap.size w w9 := B8.trans (b9.mono B8.size)
  go_wp2_with fail
  refine (toNodeSS_own _ Js _ (hvJs.out.below B9 (Nat.le_refl _)) hnJs hlJs.out).mono ?_
  rintro e w10 ⟨yJs, rfl, oyJs, b10⟩
  have Avw := Avw.trans (b10.mono Avw.size)
  have oxIs := oxIs.below b10 (Nat.le_refl _)
  have oxJs := oxJs.below b10 (Nat.le_refl _)
  have ovg := ovg.below b10 (Nat.le_refl _)
  have s10 := b10.size
  have B10 : Below w.heap.size w w10 := B9.trans (b10.mono B9.size)
  go_wp2_with fail
  refine (eqNodeSS_same _ _ Js _ oxJs.fs oyJs.fs).mono ?_
  rintro e w11 ⟨rfl, b11⟩
  have Avw := Avw.trans (b11.mono Avw.size)
  have oxIs := oxIs.below b11 (Nat.le_refl _)
  have oxJs := oxJs.below b11 (Nat.le_refl _)
  have ovg := ovg.below b11 (Nat.le_refl _)
  have oyJs := oyJs.below b11 (Nat.le_refl _)
  have s11 := b11.size
  have B11 : Below w.heap.size w w11 := B10.trans (b11.mono B10.size)
  go_wp2_with fail
  refine (markNodeSS_any _ _ _ Is _ _ oxIs (by omega) (by omega)).mono ?_
  rintro e w12 ⟨rfl, omxIs, t12⟩
  have Avw := Avw.trans (t12.below (by omega) (by omega))
  have oxJs := oxJs.turned t12 (by omega)
  have ovg := ovg.turned t12 (by omega)
  have s12 := t12.size
  have B12 : Below w.heap.size w w12 := B11.trans (t12.below (by omega) (by omega))
  have oxIs := omxIs
  clear omxIs
  go_wp2_with fail
  refine (markNodeSS_any _ _ _ Js _ _ oxJs (by omega) (by omega)).mono ?_
  rintro e w13 ⟨rfl, omxJs, t13⟩
  have Avw := Avw.trans (t13.below (by omega) (by omega))
  have oxIs := oxIs.turned t13 (by omega)
  have ovg := ovg.turned t13 (by omega)
  have s13 := t13.size
  have B13 : Below w.heap.size w w13 := B12.trans (t13.below (by omega) (by omega))
  have oxJs := omxJs
  clear omxJs
  go_wp2_with fail
  refine (eqNodeSS_same _ _ (cpR Is Js) _ ovg.fs (fvw.below Avw (Nat.le_refl _))).mono ?_
  rintro e w14 ⟨rfl, b14⟩
  have Avw := Avw.trans (b14.mono Avw.size)
  have ovg := ovg.below b14 (Nat.le_refl _)
  have s14 := b14.size
  have B14 : Below w.heap.size w w14 := B13.trans (b14.mono B13.size)
  go_wp2_with fail
  refine (markNodeSS_any _ _ _ (cpR Is Js) _ _ ovg (by omega) (by omega)).mono ?_
  rintro e w15 ⟨rfl, omvg, t15⟩
  have Avw := Avw.trans (t15.below (by omega) (by omega))
  have s15 := t15.size
  have B15 : Below w.heap.size w w15 := B14.trans (t15.below (by omega) (by omega))
  have ovg := omvg
  clear omvg
  go_wp2_with fail
  refine (heldNodeSS_any _ (cpR Is Js) _ _ ovg.fs (by omega) (by omega)).mono ?_
  rintro e w16 ⟨rfl, b16⟩
  have Avw := Avw.trans (b16.mono Avw.size)
  have ovg := ovg.below b16 (Nat.le_refl _)
  have s16 := b16.size
  have B16 : Below w.heap.size w w16 := B15.trans (b16.mono B15.size)
  go_wp2_with fail
  refine (toNodeSS_own _ Is _ (hvIs.out.below B16 (Nat.le_refl _)) hnIs hlIs.out).mono ?_
  rintro e w17 ⟨zIs, rfl, ozIs, b17⟩
  have Avw := Avw.trans (b17.mono Avw.size)
  have ovg := ovg.below b17 (Nat.le_refl _)
  have s17 := b17.size
  have B17 : Below w.heap.size w w17 := B16.trans (b17.mono B16.size)
  go_wp2_with fail
  refine (toNodeSS_own _ Js _ (hvJs.out.below B17 (Nat.le_refl _)) hnJs hlJs.out).mono ?_
  rintro e w18 ⟨zJs, rfl, ozJs, b18⟩
  have Avw := Avw.trans (b18.mono Avw.size)
  have ovg := ovg.below b18 (Nat.le_refl _)
  have ozIs := ozIs.below b18 (Nat.le_refl _)
  have s18 := b18.size
  have B18 : Below w.heap.size w w18 := B17.trans (b18.mono B17.size)
  go_wp2_with fail
  refine (implComposeSubstitutions_any _ Is _ Js _ ozIs.fs ozJs.fs).mono ?_
  rintro e w19 ⟨vh, rfl, ovh, b19⟩
  have Avw := Avw.trans (b19.mono Avw.size)
  have ovg := ovg.below b19 (Nat.le_refl _)
  have ozIs := ozIs.below b19 (Nat.le_refl _)
  have ozJs := ozJs.below b19 (Nat.le_refl _)
  have s19 := b19.size
  have B19 : Below w.heap.size w w19 := B18.trans (b19.mono B18.size)
  go_wp2_with fail
  refine (eqNodeSS_same _ _ (cpR Is Js) _ ovh.fs (fvw.below Avw (Nat.le_refl _))).mono ?_
  rintro e w20 ⟨rfl, b20⟩
  have Avw := Avw.trans (b20.mono Avw.size)
  have ovg := ovg.below b20 (Nat.le_refl _)
  have ovh := ovh.below b20 (Nat.le_refl _)
  have s20 := b20.size
  have B20 : Below w.heap.size w w20 := B19.trans (b20.mono B19.size)
  go_wp2_with fail
  refine (heldNodeSS_any _ (cpR Is Js) _ _ ovg.fs (by omega) (by omega)).mono ?_
  rintro e w21 ⟨rfl, b21⟩
  have Avw := Avw.trans (b21.mono Avw.size)
  have ovg := ovg.below b21 (Nat.le_refl _)
  have ovh := ovh.below b21 (Nat.le_refl _)
  have s21 := b21.size
  have B21 : Below w.heap.size w w21 := B20.trans (b21.mono B20.size)
  go_wp2_with fail
  go_ret
  exact ⟨rfl, B21⟩
end Go.Proofs.Ytadinbjhpbomkaa
