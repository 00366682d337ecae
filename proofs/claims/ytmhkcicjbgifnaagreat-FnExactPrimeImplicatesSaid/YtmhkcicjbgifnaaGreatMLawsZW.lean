/- The laws' own walks, from the contracts of what they call (written by walkgen2.py): PrimeImplicates. -/
import Derived.Test.YtmhkcicjbgifnaaGreatMPredM
import Derived.Test.YtmhkcicjbgifnaaGreatMNodes
import Derived.Test.YtmhkcicjbgifnaaGreatMIntSSRow
import Derived.Test.YtmhkcicjbgifnaaGreatMPrimeFlip
namespace Go.Proofs.YtmhkcicjbgifnaaGreat
open Go.RowKit
set_option linter.unusedVariables false

set_option maxHeartbeats 2000000 in
theorem w_FnExactPrimeImplicates (vns : Value) (ns : List Nd) (w : World) (hns : Nodes w vns ns) :
    Calls Tryz.prog 3 #[vns] w fun e w' => e = .returned (.bool true) ∧ Below w.heap.size w w' := by
  obtain ⟨R, hR⟩ := primeR_ex false ns
  have hlen := primeR_tot hR
  have hcns := hns.cap
  unfold maxLen at hcns
  have hvns := Lib.hid hns
  clear hns
  go_enter Tryz.func3, Tryz.ntmps3
  go_wp2_with fail
  refine (szNodeS_any _ ns _ _ hvns.out (by omega) (by omega)).mono ?_
  rintro e w' ⟨rfl, rfl⟩
  by_cases hlns : (1048576 : Int) < ((ns.length : Nat) : Int)
  · rw [szR_lt hlns]
    go_wp2_with fail
    go_ret
    exact ⟨rfl, Below.refl _ _⟩
  have hlns : ((ns.length : Nat) : Int) ≤ (1048576 : Int) := by omega
  rw [szR_ge (by omega)]
  go_wp2_with fail
  refine (toNodeS_any _ ns _ hvns.out (by omega)).mono ?_
  rintro e w1 ⟨tns, rfl, otns, b1⟩
  have ltns := own_lt otns
  have s1 := b1.size
  have B1 : Below w.heap.size w w1 := b1
  go_wp2_with fail
  refine (specPrimeImplicates_any _ ns _ (nodes_of_own otns) R hR).mono ?_
  rintro e w2 ⟨vw, rfl, fvw, b2⟩
  have otns := own_below otns b2 (Nat.le_refl _)
  have Avw := Below.refl w2.heap.size w2
  have s2 := b2.size
  have B2 : Below w.heap.size w w2 := B1.trans (b2.mono B1.size)
  go_wp2_with fail
  refine (toNodeS_any _ ns _ (hvns.out.below B2 (Nat.le_refl _)) (by omega)).mono ?_
  rintro e w3 ⟨xns, rfl, oxns, b3⟩
  have Avw := Avw.trans (b3.mono Avw.size)
  have lxns := own_lt oxns
  have s3 := b3.size
  have B3 : Below w.heap.size w w3 := B2.trans (b3.mono B2.size)
  go_wp2_with fail
  refine (implPrimeImplicates_any _ ns _ (nodes_of_own oxns) R hR).mono ?_
  rintro e w4 ⟨vg, rfl, ovg, b4⟩
  have Avw := Avw.trans (b4.mono Avw.size)
  have oxns := own_below oxns b4 (Nat.le_refl _)
  have s4 := b4.size
  have B4 : Below w.heap.size w w4 := B3.trans (b4.mono B3.size)
  go_wp2_with fail
  refine (eqInt64SS_same _ _ R _ ovg.fs (fvw.below Avw (Nat.le_refl _))).mono ?_
  rintro e w5 ⟨rfl, b5⟩
  have Avw := Avw.trans (b5.mono Avw.size)
  have oxns := own_below oxns b5 (Nat.le_refl _)
  have ovg := ovg.below b5 (Nat.le_refl _)
  have s5 := b5.size
  have B5 : Below w.heap.size w w5 := B4.trans (b5.mono B4.size)
  go_wp2_with fail
  refine (toNodeS_any _ ns _ (hvns.out.below B5 (Nat.le_refl _)) (by omega)).mono ?_
  rintro e w6 ⟨yns, rfl, oyns, b6⟩
  have Avw := Avw.trans (b6.mono Avw.size)
  have oxns := own_below oxns b6 (Nat.le_refl _)
  have ovg := ovg.below b6 (Nat.le_refl _)
  have lyns := own_lt oyns
  have s6 := b6.size
  have B6 : Below w.heap.size w w6 := B5.trans (b6.mono B5.size)
  go_wp2_with fail
  refine (eqNodeS_same _ _ ns _ (nodes_of_own oxns) (nodes_of_own oyns)).mono ?_
  rintro e w7 ⟨rfl, b7⟩
  have Avw := Avw.trans (b7.mono Avw.size)
  have oxns := own_below oxns b7 (Nat.le_refl _)
  have ovg := ovg.below b7 (Nat.le_refl _)
  have oyns := own_below oyns b7 (Nat.le_refl _)
  have s7 := b7.size
  have B7 : Below w.heap.size w w7 := B6.trans (b7.mono B6.size)
  go_wp2_with fail
  refine (markNodeS_any _ _ _ _ _ _ oxns (by omega) (by omega)).mono ?_
  rintro e w8 ⟨rfl, omxns, g8⟩
  have t8 : Turned w2.heap.size w3.heap.size w7 w8 := Turned.of_grown g8 fun k hk => ⟨(oxns.lt k hk).1, lxns k hk⟩
  have Avw := Avw.trans (t8.below (by omega) (by omega))
  have ovg := ovg.turned t8 (by omega)
  have s8 := t8.size
  have B8 : Below w.heap.size w w8 := B7.trans (t8.below (by omega) (by omega))
  have oxns := omxns
  clear omxns
  go_wp2_with fail
  refine (eqInt64SS_same _ _ R _ ovg.fs (fvw.below Avw (Nat.le_refl _))).mono ?_
  rintro e w9 ⟨rfl, b9⟩
  have Avw := Avw.trans (b9.mono Avw.size)
  have ovg := ovg.below b9 (Nat.le_refl _)
  have s9 := b9.size
  have B9 : Below w.heap.size w w9 := B8.trans (b9.mono B8.size)
  go_wp2_with fail
  refine (markInt64SS_any _ _ _ R _ _ ovg (by omega) (by omega)).mono ?_
  rintro e w10 ⟨rfl, omvg, t10⟩
  have Avw := Avw.trans (t10.below (by omega) (by omega))
  have s10 := t10.size
  have B10 : Below w.heap.size w w10 := B9.trans (t10.below (by omega) (by omega))
  have ovg := omvg
  clear omvg
  go_wp2_with fail
  refine (heldInt64SS_any _ R _ _ ovg.fs (by omega) (by omega)).mono ?_
  rintro e w11 ⟨rfl, b11⟩
  have Avw := Avw.trans (b11.mono Avw.size)
  have ovg := ovg.below b11 (Nat.le_refl _)
  have s11 := b11.size
  have B11 : Below w.heap.size w w11 := B10.trans (b11.mono B10.size)
  go_wp2_with fail
  refine (toNodeS_any _ ns _ (hvns.out.below B11 (Nat.le_refl _)) (by omega)).mono ?_
  rintro e w12 ⟨zns, rfl, ozns, b12⟩
  have Avw := Avw.trans (b12.mono Avw.size)
  have ovg := ovg.below b12 (Nat.le_refl _)
  have lzns := own_lt ozns
  have s12 := b12.size
  have B12 : Below w.heap.size w w12 := B11.trans (b12.mono B11.size)
  go_wp2_with fail
  refine (implPrimeImplicates_any _ ns _ (nodes_of_own ozns) R hR).mono ?_
  rintro e w13 ⟨vh, rfl, ovh, b13⟩
  have Avw := Avw.trans (b13.mono Avw.size)
  have ovg := ovg.below b13 (Nat.le_refl _)
  have ozns := own_below ozns b13 (Nat.le_refl _)
  have s13 := b13.size
  have B13 : Below w.heap.size w w13 := B12.trans (b13.mono B12.size)
  go_wp2_with fail
  refine (eqInt64SS_same _ _ R _ ovh.fs (fvw.below Avw (Nat.le_refl _))).mono ?_
  rintro e w14 ⟨rfl, b14⟩
  have Avw := Avw.trans (b14.mono Avw.size)
  have ovg := ovg.below b14 (Nat.le_refl _)
  have ovh := ovh.below b14 (Nat.le_refl _)
  have s14 := b14.size
  have B14 : Below w.heap.size w w14 := B13.trans (b14.mono B13.size)
  go_wp2_with fail
  refine (heldInt64SS_any _ R _ _ ovg.fs (by omega) (by omega)).mono ?_
  rintro e w15 ⟨rfl, b15⟩
  have Avw := Avw.trans (b15.mono Avw.size)
  have ovg := ovg.below b15 (Nat.le_refl _)
  have ovh := ovh.below b15 (Nat.le_refl _)
  have s15 := b15.size
  have B15 : Below w.heap.size w w15 := B14.trans (b15.mono B14.size)
  go_wp2_with fail
  go_ret
  exact ⟨rfl, B15⟩
end Go.Proofs.YtmhkcicjbgifnaaGreat
