/- The laws' own walks, from the contracts of what they call (written by walkgen2.py): ClassicalEntails. -/
import Derived.Test.YtfedipeabbaccaaTurn
import Derived.Test.YtfedipeabbaccaaRowSS
import Derived.Test.YtfedipeabbaccaaEntailsTwo
namespace Go.Proofs.Ytfedipeabbaccaa
open Go.RowKit
set_option linter.unusedVariables false

set_option maxHeartbeats 2000000 in
theorem w_FnExactClassicalEntails (vIs : Value) (Is : List (List Nd)) (vns : Value) (ns : List Nd) (w : World) (hIs : Fs w vIs Is) (hns : Nodes w vns ns) :
    Calls Try.prog 7 #[vIs, vns] w fun e w' => e = .returned (.bool true) ∧ Below w.heap.size w w' := by
  have hvIs := Lib.hid hIs
  clear hIs
  have hcns := hns.cap
  unfold maxLen at hcns
  have hvns := Lib.hid hns
  clear hns
  go_enter Try.func7, Try.ntmps7
  go_wp2_with fail
  refine (szNodeSS_any _ Is _ _ hvIs.out (by omega) (by omega)).mono ?_
  rintro e w' ⟨⟨zIs, rfl, hzIs⟩, rfl⟩
  rcases hzIs with rfl | ⟨hzaIs, hzbIs, hnIs, hlIs⟩
  · go_wp2_with fail
    go_ret
    exact ⟨rfl, Below.refl _ _⟩
  have htIs := tot_cap hnIs hlIs
  have hlIs := Lib.hid hlIs
  go_wp2_with fail
  refine (szNodeS_any _ ns _ _ hvns.out (by omega) (by omega)).mono ?_
  rintro e w' ⟨rfl, rfl⟩
  by_cases hlns : zIs < ((ns.length : Nat) : Int)
  · rw [szR_lt hlns]
    go_wp2_with fail
    go_ret
    exact ⟨rfl, Below.refl _ _⟩
  have hlns : ((ns.length : Nat) : Int) ≤ zIs := by omega
  rw [szR_ge (by omega)]
  go_wp2_with fail
  refine (toNodeSS_own _ Is _ hvIs.out hnIs hlIs.out).mono ?_
  rintro e w1 ⟨tIs, rfl, otIs, b1⟩
  have s1 := b1.size
  have B1 : Below w.heap.size w w1 := b1
  go_wp2_with fail
  refine (toNodeS_any _ ns _ (hvns.out.below B1 (Nat.le_refl _)) (by omega)).mono ?_
  rintro e w2 ⟨tns, rfl, otns, b2⟩
  have otIs := otIs.below b2 (Nat.le_refl _)
  have ltns := own_lt otns
  have s2 := b2.size
  have B2 : Below w.heap.size w w2 := B1.trans (b2.mono B1.size)
  go_wp2_with fail
  refine (specClassicalEntails_any _ Is _ ns _ otIs.fs (nodes_of_own otns) hnIs).mono ?_
  rintro e w3 ⟨rfl, b3⟩
  have otIs := otIs.below b3 (Nat.le_refl _)
  have otns := own_below otns b3 (Nat.le_refl _)
  have s3 := b3.size
  have B3 : Below w.heap.size w w3 := B2.trans (b3.mono B2.size)
  go_wp2_with fail
  refine (toNodeSS_own _ Is _ (hvIs.out.below B3 (Nat.le_refl _)) hnIs hlIs.out).mono ?_
  rintro e w4 ⟨xIs, rfl, oxIs, b4⟩
  have s4 := b4.size
  have B4 : Below w.heap.size w w4 := B3.trans (b4.mono B3.size)
  go_wp2_with fail
  refine (toNodeS_any _ ns _ (hvns.out.below B4 (Nat.le_refl _)) (by omega)).mono ?_
  rintro e w5 ⟨xns, rfl, oxns, b5⟩
  have oxIs := oxIs.below b5 (Nat.le_refl _)
  have lxns := own_lt oxns
  have s5 := b5.size
  have B5 : Below w.heap.size w w5 := B4.trans (b5.mono B4.size)
  go_wp2_with fail
  refine (implClassicalEntails_any _ Is _ ns _ oxIs.fs (nodes_of_own oxns) hnIs).mono ?_
  rintro e w6 ⟨rfl, b6⟩
  have oxIs := oxIs.below b6 (Nat.le_refl _)
  have oxns := own_below oxns b6 (Nat.le_refl _)
  have s6 := b6.size
  have B6 : Below w.heap.size w w6 := B5.trans (b6.mono B5.size)
  go_wp2_with fail
  refine (toNodeSS_own _ Is _ (hvIs.out.below B6 (Nat.le_refl _)) hnIs hlIs.out).mono ?_
  rintro e w7 ⟨yIs, rfl, oyIs, b7⟩
  have oxIs := oxIs.below b7 (Nat.le_refl _)
  have oxns := own_below oxns b7 (Nat.le_refl _)
  have s7 := b7.size
  have B7 : Below w.heap.size w w7 := B6.trans (b7.mono B6.size)
  go_wp2_with fail
  refine (eqNodeSS_same _ _ Is _ oxIs.fs oyIs.fs).mono ?_
  rintro e w8 ⟨rfl, b8⟩
  have oxIs := oxIs.below b8 (Nat.le_refl _)
  have oxns := own_below oxns b8 (Nat.le_refl _)
  have oyIs := oyIs.below b8 (Nat.le_refl _)
  have s8 := b8.size
  have B8 : Below w.heap.size w w8 := B7.trans (b8.mono B7.size)
  go_wp2_with fail
  refine (toNodeS_any _ ns _ (hvns.out.below B8 (Nat.le_refl _)) (by omega)).mono ?_
  rintro e w9 ⟨yns, rfl, oyns, b9⟩
  have oxIs := oxIs.below b9 (Nat.le_refl _)
  have oxns := own_below oxns b9 (Nat.le_refl _)
  have lyns := own_lt oyns
  have s9 := b9.size
  have B9 : Below w.heap.size w w9 := B8.trans (b9.mono B8.size)
  go_wp2_with fail
  refine (eqNodeS_same _ _ ns _ (nodes_of_own oxns) (nodes_of_own oyns)).mono ?_
  rintro e w10 ⟨rfl, b10⟩
  have oxIs := oxIs.below b10 (Nat.le_refl _)
  have oxns := own_below oxns b10 (Nat.le_refl _)
  have oyns := own_below oyns b10 (Nat.le_refl _)
  have s10 := b10.size
  have B10 : Below w.heap.size w w10 := B9.trans (b10.mono B9.size)
  go_wp2_with fail
  go_ret
  exact ⟨rfl, B10⟩
end Go.Proofs.Ytfedipeabbaccaa
