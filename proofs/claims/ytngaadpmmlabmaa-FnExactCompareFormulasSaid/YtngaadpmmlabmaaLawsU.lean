/- The laws' own walks, from the contracts of what they call (written by walkgen.py): CompareFormulas. -/
import Derived.Test.YtngaadpmmlabmaaCompare
namespace Go.Proofs.Ytngaadpmmlabmaa
open Go.RowKit
set_option linter.unusedVariables false

set_option maxHeartbeats 1000000 in
theorem w_FnExactCompareFormulas (vns : Value) (ns : List Nd) (vbs : Value) (bs : List Nd) (w : World) (hns : Nodes w vns ns) (hbs : Nodes w vbs bs) :
    Calls Try.prog 5 #[vns, vbs] w fun e w' => e = .returned (.bool true) ∧ Below w.heap.size w w' := by
  have hcns := hns.cap
  unfold maxLen at hcns
  have hvns := Lib.hid hns
  clear hns
  have hcbs := hbs.cap
  unfold maxLen at hcbs
  have hvbs := Lib.hid hbs
  clear hbs
  by_cases hlns : (1048576 : Int) < (ns.length : Nat)
  · have hsns := szR_lt hlns
    go_enter Try.func5, Try.ntmps5
    go_wp2_with fail
    refine (szNodeS_any _ ns _ _ hvns.out (by omega) (by omega)).mono ?_
    rintro e w' ⟨rfl, rfl⟩
    go_wp2_with fail
    go_ret
    exact ⟨rfl, Below.refl _ _⟩
  have hlns : ((ns.length : Nat) : Int) ≤ (1048576 : Int) := by omega
  have hsns := szR_ge hlns
  by_cases hlbs : (1048576 : Int) - (ns.length : Nat) < (bs.length : Nat)
  · have hsbs := szR_lt hlbs
    go_enter Try.func5, Try.ntmps5
    go_wp2_with fail
    refine (szNodeS_any _ ns _ _ hvns.out (by omega) (by omega)).mono ?_
    rintro e w' ⟨rfl, rfl⟩
    go_wp2_with fail
    refine (szNodeS_any _ bs _ _ hvbs.out (by omega) (by omega)).mono ?_
    rintro e w' ⟨rfl, rfl⟩
    go_wp2_with fail
    go_ret
    exact ⟨rfl, Below.refl _ _⟩
  have hlbs : ((bs.length : Nat) : Int) ≤ (1048576 : Int) - (ns.length : Nat) := by omega
  have hsbs := szR_ge hlbs
  go_enter Try.func5, Try.ntmps5
  go_wp2_with fail
  refine (szNodeS_any _ ns _ _ hvns.out (by omega) (by omega)).mono ?_
  rintro e w' ⟨rfl, rfl⟩
  go_wp2_with fail
  refine (szNodeS_any _ bs _ _ hvbs.out (by omega) (by omega)).mono ?_
  rintro e w' ⟨rfl, rfl⟩
  go_wp2_with fail
  refine (toNodeS_any _ ns _ hvns.out (by omega)).mono ?_
  rintro e w1 ⟨tns, rfl, otns, b1⟩
  have ltns := own_lt otns
  have s1 := b1.size
  have B1 : Below w.heap.size w w1 := b1
  go_wp2_with fail
  refine (toNodeS_any _ bs _ (hvbs.out.below B1 (Nat.le_refl _)) (by omega)).mono ?_
  rintro e w2 ⟨tbs, rfl, otbs, b2⟩
  have otns := own_below otns b2 (Nat.le_refl _)
  have ltbs := own_lt otbs
  have s2 := b2.size
  have B2 : Below w.heap.size w w2 := B1.trans (b2.mono B1.size)
  go_wp2_with fail
  refine (specCompareFormulas_any _ ns _ bs _ (nodes_of_own otns) (nodes_of_own otbs)).mono ?_
  rintro e w3 ⟨rfl, b3⟩
  have otns := own_below otns b3 (Nat.le_refl _)
  have otbs := own_below otbs b3 (Nat.le_refl _)
  have s3 := b3.size
  have B3 : Below w.heap.size w w3 := B2.trans (b3.mono B2.size)
  go_wp2_with fail
  refine (toNodeS_any _ ns _ (hvns.out.below B3 (Nat.le_refl _)) (by omega)).mono ?_
  rintro e w4 ⟨xns, rfl, oxns, b4⟩
  have lxns := own_lt oxns
  have s4 := b4.size
  have B4 : Below w.heap.size w w4 := B3.trans (b4.mono B3.size)
  go_wp2_with fail
  refine (toNodeS_any _ bs _ (hvbs.out.below B4 (Nat.le_refl _)) (by omega)).mono ?_
  rintro e w5 ⟨xbs, rfl, oxbs, b5⟩
  have oxns := own_below oxns b5 (Nat.le_refl _)
  have lxbs := own_lt oxbs
  have s5 := b5.size
  have B5 : Below w.heap.size w w5 := B4.trans (b5.mono B4.size)
  go_wp2_with fail
  refine (implCompareFormulas_any _ ns _ bs _ (nodes_of_own oxns) (nodes_of_own oxbs)).mono ?_
  rintro e w6 ⟨rfl, b6⟩
  have oxns := own_below oxns b6 (Nat.le_refl _)
  have oxbs := own_below oxbs b6 (Nat.le_refl _)
  have s6 := b6.size
  have B6 : Below w.heap.size w w6 := B5.trans (b6.mono B5.size)
  go_wp2_with fail
  refine (toNodeS_any _ ns _ (hvns.out.below B6 (Nat.le_refl _)) (by omega)).mono ?_
  rintro e w7 ⟨yns, rfl, oyns, b7⟩
  have oxns := own_below oxns b7 (Nat.le_refl _)
  have oxbs := own_below oxbs b7 (Nat.le_refl _)
  have lyns := own_lt oyns
  have s7 := b7.size
  have B7 : Below w.heap.size w w7 := B6.trans (b7.mono B6.size)
  go_wp2_with fail
  refine (eqNodeS_same _ _ ns _ (nodes_of_own oxns) (nodes_of_own oyns)).mono ?_
  rintro e w8 ⟨rfl, b8⟩
  have oxns := own_below oxns b8 (Nat.le_refl _)
  have oxbs := own_below oxbs b8 (Nat.le_refl _)
  have oyns := own_below oyns b8 (Nat.le_refl _)
  have s8 := b8.size
  have B8 : Below w.heap.size w w8 := B7.trans (b8.mono B7.size)
  go_wp2_with fail
  refine (toNodeS_any _ bs _ (hvbs.out.below B8 (Nat.le_refl _)) (by omega)).mono ?_
  rintro e w9 ⟨ybs, rfl, oybs, b9⟩
  have oxns := own_below oxns b9 (Nat.le_refl _)
  have oxbs := own_below oxbs b9 (Nat.le_refl _)
  have lybs := own_lt oybs
  have s9 := b9.size
  have B9 : Below w.heap.size w w9 := B8.trans (b9.mono B8.size)
  go_wp2_with fail
  refine (eqNodeS_same _ _ bs _ (nodes_of_own oxbs) (nodes_of_own oybs)).mono ?_
  rintro e w10 ⟨rfl, b10⟩
  have oxns := own_below oxns b10 (Nat.le_refl _)
  have oxbs := own_below oxbs b10 (Nat.le_refl _)
  have oybs := own_below oybs b10 (Nat.le_refl _)
  have s10 := b10.size
  have B10 : Below w.heap.size w w10 := B9.trans (b10.mono B9.size)
  go_wp2_with fail
  go_ret
  exact ⟨rfl, B10⟩
end Go.Proofs.Ytngaadpmmlabmaa
