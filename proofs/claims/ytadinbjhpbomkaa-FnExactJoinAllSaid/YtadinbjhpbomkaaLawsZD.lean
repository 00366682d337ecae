/- The laws' own walks, from the contracts of what they call (written by walkgen2.py): JoinAll. -/
import Derived.Test.YtadinbjhpbomkaaJoinAllTwo
namespace Go.Proofs.Ytadinbjhpbomkaa
open Go.RowKit
set_option linter.unusedVariables false

set_option maxHeartbeats 2000000 in
theorem w_FnExactJoinAll (k : Int) (vIs : Value) (Is : List (List Nd)) (w : World) (_hk : (Lit.int .i64 k).wf = true) (hIs : Fs w vIs Is) :
    Calls Try.prog 9 #[.int .i64 k, vIs] w fun e w' => e = .returned (.bool true) ∧ Below w.heap.size w w' := by
  have hlen := jaR_length k Is
  have hvIs := Lib.hid hIs
  clear hIs
  go_enter Try.func9, Try.ntmps9
  go_wp2_with fail
  refine (szNodeSS_any _ Is _ _ hvIs.out (by omega) (by omega)).mono ?_
  rintro e w' ⟨⟨zIs, rfl, hzIs⟩, rfl⟩
  rcases hzIs with rfl | ⟨hzaIs, hzbIs, hnIs, hlIs⟩
  · go_wp2_with fail
    go_ret
    exact ⟨rfl, Below.refl _ _⟩
  have htIs := tot_cap hnIs hlIs
  have hlIs := Lib.hid hlIs
  go_wp2_with fail
  refine (toNodeSS_own _ Is _ hvIs.out hnIs hlIs.out).mono ?_
  rintro e w1 ⟨tIs, rfl, otIs, b1⟩
  have s1 := b1.size
  have B1 : Below w.heap.size w w1 := b1
  go_wp2_with fail
  refine (specJoinAll_any _ _ Is _ otIs.fs hnIs).mono ?_
  rintro e w2 ⟨vw, rfl, ovw, b2⟩
  have otIs := otIs.below b2 (Nat.le_refl _)
  have lvw := own_lt ovw
  have s2 := b2.size
  have B2 : Below w.heap.size w w2 := B1.trans (b2.mono B1.size)
  go_wp2_with fail
  refine (toNodeSS_own _ Is _ (hvIs.out.below B2 (Nat.le_refl _)) hnIs hlIs.out).mono ?_
  rintro e w3 ⟨xIs, rfl, oxIs, b3⟩
  have ovw := own_below ovw b3 (Nat.le_refl _)
  have s3 := b3.size
  have B3 : Below w.heap.size w w3 := B2.trans (b3.mono B2.size)
  go_wp2_with fail
  refine (implJoinAll_any _ _ Is _ oxIs.fs hnIs).mono ?_
  rintro e w4 ⟨vg, rfl, ovg, b4⟩
  have ovw := own_below ovw b4 (Nat.le_refl _)
  have oxIs := oxIs.below b4 (Nat.le_refl _)
  have lvg := own_lt ovg
  have s4 := b4.size
  have B4 : Below w.heap.size w w4 := B3.trans (b4.mono B3.size)
  go_wp2_with fail
  refine (eqNodeS_same _ _ (jaR k Is) _ (nodes_of_own ovg) (nodes_of_own ovw)).mono ?_
  rintro e w5 ⟨rfl, b5⟩
  have ovw := own_below ovw b5 (Nat.le_refl _)
  have oxIs := oxIs.below b5 (Nat.le_refl _)
  have ovg := own_below ovg b5 (Nat.le_refl _)
  have s5 := b5.size
  have B5 : Below w.heap.size w w5 := B4.trans (b5.mono B4.size)
  go_wp2_with fail
  refine (toNodeSS_own _ Is _ (hvIs.out.below B5 (Nat.le_refl _)) hnIs hlIs.out).mono ?_
  rintro e w6 ⟨yIs, rfl, oyIs, b6⟩
  have ovw := own_below ovw b6 (Nat.le_refl _)
  have oxIs := oxIs.below b6 (Nat.le_refl _)
  have ovg := own_below ovg b6 (Nat.le_refl _)
  have s6 := b6.size
  have B6 : Below w.heap.size w w6 := B5.trans (b6.mono B5.size)
  go_wp2_with fail
  refine (eqNodeSS_same _ _ Is _ oxIs.fs oyIs.fs).mono ?_
  rintro e w7 ⟨rfl, b7⟩
  have ovw := own_below ovw b7 (Nat.le_refl _)
  have oxIs := oxIs.below b7 (Nat.le_refl _)
  have ovg := own_below ovg b7 (Nat.le_refl _)
  have oyIs := oyIs.below b7 (Nat.le_refl _)
  have s7 := b7.size
  have B7 : Below w.heap.size w w7 := B6.trans (b7.mono B6.size)
  go_wp2_with fail
  refine (markNodeSS_any _ _ _ Is _ _ oxIs (by omega) (by omega)).mono ?_
  rintro e w8 ⟨rfl, omxIs, t8⟩
  have ovw := turned_row ovw lvw t8 (by omega)
  have ovg := turned_row ovg lvg t8 (by omega)
  have s8 := t8.size
  have B8 : Below w.heap.size w w8 := B7.trans (t8.below (by omega) (by omega))
  have oxIs := omxIs
  clear omxIs
  go_wp2_with fail
  refine (eqNodeS_same _ _ (jaR k Is) _ (nodes_of_own ovg) (nodes_of_own ovw)).mono ?_
  rintro e w9 ⟨rfl, b9⟩
  have ovw := own_below ovw b9 (Nat.le_refl _)
  have ovg := own_below ovg b9 (Nat.le_refl _)
  have s9 := b9.size
  have B9 : Below w.heap.size w w9 := B8.trans (b9.mono B8.size)
  go_wp2_with fail
  refine (markNodeS_any _ _ _ _ _ _ ovg (by omega) (by omega)).mono ?_
  rintro e w10 ⟨rfl, omvg, g10⟩
  have t10 : Turned w3.heap.size w4.heap.size w9 w10 := Turned.of_grown g10 fun k hk => ⟨(ovg.lt k hk).1, lvg k hk⟩
  have ovw := turned_row ovw lvw t10 (by omega)
  have s10 := t10.size
  have B10 : Below w.heap.size w w10 := B9.trans (t10.below (by omega) (by omega))
  have ovg := omvg
  clear omvg
  go_wp2_with fail
  refine (heldNodeS_any _ _ _ _ (nodes_of_own ovg) (by omega) (by omega)).mono ?_
  rintro e w11 ⟨rfl, b11⟩
  have ovw := own_below ovw b11 (Nat.le_refl _)
  have ovg := own_below ovg b11 (Nat.le_refl _)
  have s11 := b11.size
  have B11 : Below w.heap.size w w11 := B10.trans (b11.mono B10.size)
  go_wp2_with fail
  refine (toNodeSS_own _ Is _ (hvIs.out.below B11 (Nat.le_refl _)) hnIs hlIs.out).mono ?_
  rintro e w12 ⟨zIs, rfl, ozIs, b12⟩
  have ovw := own_below ovw b12 (Nat.le_refl _)
  have ovg := own_below ovg b12 (Nat.le_refl _)
  have s12 := b12.size
  have B12 : Below w.heap.size w w12 := B11.trans (b12.mono B11.size)
  go_wp2_with fail
  refine (implJoinAll_any _ _ Is _ ozIs.fs hnIs).mono ?_
  rintro e w13 ⟨vh, rfl, ovh, b13⟩
  have ovw := own_below ovw b13 (Nat.le_refl _)
  have ovg := own_below ovg b13 (Nat.le_refl _)
  have ozIs := ozIs.below b13 (Nat.le_refl _)
  have lvh := own_lt ovh
  have s13 := b13.size
  have B13 : Below w.heap.size w w13 := B12.trans (b13.mono B12.size)
  go_wp2_with fail
  refine (eqNodeS_same _ _ (jaR k Is) _ (nodes_of_own ovh) (nodes_of_own ovw)).mono ?_
  rintro e w14 ⟨rfl, b14⟩
  have ovw := own_below ovw b14 (Nat.le_refl _)
  have ovg := own_below ovg b14 (Nat.le_refl _)
  have ovh := own_below ovh b14 (Nat.le_refl _)
  have s14 := b14.size
  have B14 : Below w.heap.size w w14 := B13.trans (b14.mono B13.size)
  go_wp2_with fail
  refine (heldNodeS_any _ _ _ _ (nodes_of_own ovg) (by omega) (by omega)).mono ?_
  rintro e w15 ⟨rfl, b15⟩
  have ovw := own_below ovw b15 (Nat.le_refl _)
  have ovg := own_below ovg b15 (Nat.le_refl _)
  have ovh := own_below ovh b15 (Nat.le_refl _)
  have s15 := b15.size
  have B15 : Below w.heap.size w w15 := B14.trans (b15.mono B14.size)
  go_wp2_with fail
  go_ret
  exact ⟨rfl, B15⟩
end Go.Proofs.Ytadinbjhpbomkaa
