/- The laws' own walks, from the contracts of what they call (written by walkgen2.py): PointText. -/
import Derived.Test.YtfedipeabbaccaaDoorTurn
import Derived.Test.YtfedipeabbaccaaDoorPts
import Derived.Test.YtfedipeabbaccaaDoorPtTextAll
namespace Go.Proofs.YtfedipeabbaccaaDoor
open Go.RowKit
set_option linter.unusedVariables false

set_option maxHeartbeats 2000000 in
theorem w_FnExactPointText (vns : Value) (ns : List Pt) (w : World) (hns : Points w vns ns) (_hT : True) :
    Calls Tryd.prog 3 #[vns] w fun e w' => e = .returned (.bool true) ∧ Below w.heap.size w w' := by
  have hcns := hns.cap
  unfold maxLen at hcns
  have hvns := Lib.hid hns
  clear hns
  go_enter Tryd.func3, Tryd.ntmps3
  go_wp2_with fail
  refine (szPointNodeS_any _ ns _ _ hvns.out (by omega) (by omega)).mono ?_
  rintro e w' ⟨rfl, rfl⟩
  by_cases hlns : (1048576 : Int) < ((ns.length : Nat) : Int)
  · rw [szP_lt hlns]
    go_wp2_with fail
    go_ret
    exact ⟨rfl, Below.refl _ _⟩
  have hlns : ((ns.length : Nat) : Int) ≤ (1048576 : Int) := by omega
  rw [szP_ge (by omega)]
  go_wp2_with fail
  refine (toPointNodeS_any _ ns _ hvns.out (by omega)).mono ?_
  rintro e w1 ⟨tns, rfl, otns, b1⟩
  have ltns := own_lt otns
  have s1 := b1.size
  have B1 : Below w.heap.size w w1 := b1
  go_wp2_with fail
  refine (specPointText_any _ ns _ (points_of_own otns)).mono ?_
  rintro e w2 ⟨rfl, b2⟩
  have otns := own_below otns b2 (Nat.le_refl _)
  have s2 := b2.size
  have B2 : Below w.heap.size w w2 := B1.trans (b2.mono B1.size)
  go_wp2_with fail
  refine (toPointNodeS_any _ ns _ (hvns.out.below B2 (Nat.le_refl _)) (by omega)).mono ?_
  rintro e w3 ⟨xns, rfl, oxns, b3⟩
  have lxns := own_lt oxns
  have s3 := b3.size
  have B3 : Below w.heap.size w w3 := B2.trans (b3.mono B2.size)
  go_wp2_with fail
  refine (implPointText_any _ ns _ (points_of_own oxns)).mono ?_
  rintro e w4 ⟨rfl, b4⟩
  have oxns := own_below oxns b4 (Nat.le_refl _)
  have s4 := b4.size
  have B4 : Below w.heap.size w w4 := B3.trans (b4.mono B3.size)
  go_wp2_with fail
  refine (toPointNodeS_any _ ns _ (hvns.out.below B4 (Nat.le_refl _)) (by omega)).mono ?_
  rintro e w5 ⟨yns, rfl, oyns, b5⟩
  have oxns := own_below oxns b5 (Nat.le_refl _)
  have lyns := own_lt oyns
  have s5 := b5.size
  have B5 : Below w.heap.size w w5 := B4.trans (b5.mono B4.size)
  go_wp2_with fail
  refine (eqPointNodeS_same _ _ ns _ (points_of_own oxns) (points_of_own oyns)).mono ?_
  rintro e w6 ⟨rfl, b6⟩
  have oxns := own_below oxns b6 (Nat.le_refl _)
  have oyns := own_below oyns b6 (Nat.le_refl _)
  have s6 := b6.size
  have B6 : Below w.heap.size w w6 := B5.trans (b6.mono B5.size)
  go_wp2_with fail
  go_ret
  exact ⟨rfl, B6⟩
end Go.Proofs.YtfedipeabbaccaaDoor
