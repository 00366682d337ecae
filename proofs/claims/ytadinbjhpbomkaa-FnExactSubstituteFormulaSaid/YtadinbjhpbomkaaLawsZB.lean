/- The laws' own walks, from the contracts of what they call (written by walkgen2.py): SubstituteFormula. -/
import Derived.Test.YtadinbjhpbomkaaRowSS
import Derived.Test.YtadinbjhpbomkaaSubForm
namespace Go.Proofs.Ytadinbjhpbomkaa
open Go.RowKit
set_option linter.unusedVariables false

set_option maxHeartbeats 2000000 in
theorem w_FnExactSubstituteFormula (vns : Value) (ns : List Nd) (vIs : Value) (Is : List (List Nd)) (w : World) (hns : Nodes w vns ns) (hIs : Fs w vIs Is) :
    Calls Try.prog 5 #[vns, vIs] w fun e w' => e = .returned (.bool true) ∧ Below w.heap.size w w' := by
  have hlen := sbR_length ns Is
  have hcns := hns.cap
  unfold maxLen at hcns
  have hvns := Lib.hid hns
  clear hns
  have hvIs := Lib.hid hIs
  clear hIs
  go_enter Try.func5, Try.ntmps5
  go_wp2_with fail
  refine (szNodeS_any _ ns _ _ hvns.out (by omega) (by omega)).mono ?_
  rintro e w' ⟨rfl, rfl⟩
  by_cases hlns : (1048576 : Int) < ((ns.length : Nat) : Int)
  · rw [szR_lt hlns]
    go_wp2_with fail
    go_ret
    exact ⟨rfl, Below.refl _ _⟩
  have hlns : ((ns.length : Nat) : Int) ≤ (1048576 : Int) := by omega
  rw [szR_ge (by omega)]
  go_wp2_with fail
  refine (szNodeSS_any _ Is _ _ hvIs.out (by omega) (by omega)).mono ?_
  rintro e w' ⟨⟨zIs, rfl, hzIs⟩, rfl⟩
  rcases hzIs with rfl | ⟨hzaIs, hzbIs, hnIs, hlIs⟩
  · go_wp2_with fail
    go_ret
    exact ⟨rfl, Below.refl _ _⟩
  have htIs := tot_cap hnIs hlIs
  have hlIs := Lib.hid hlIs
  go_wp2_with fail
  refine (toNodeS_any _ ns _ hvns.out (by omega)).mono ?_
  rintro e w1 ⟨tns, rfl, otns, b1⟩
  have ltns := own_lt otns
  have s1 := b1.size
  have B1 : Below w.heap.size w w1 := b1
  go_wp2_with fail
  refine (toNodeSS_own _ Is _ (hvIs.out.below B1 (Nat.le_refl _)) hnIs hlIs.out).mono ?_
  rintro e w2 ⟨tIs, rfl, otIs, b2⟩
  have otns := own_below otns b2 (Nat.le_refl _)
  have s2 := b2.size
  have B2 : Below w.heap.size w w2 := B1.trans (b2.mono B1.size)
  go_wp2_with fail
  refine (specSubstituteFormula_any _ ns _ Is _ (nodes_of_own otns) otIs.fs).mono ?_
  rintro e w3 ⟨vw, rfl, ovw, b3⟩
  have otns := own_below otns b3 (Nat.le_refl _)
  have otIs := otIs.below b3 (Nat.le_refl _)
  have lvw := own_lt ovw
  have s3 := b3.size
  have B3 : Below w.heap.size w w3 := B2.trans (b3.mono B2.size)
  go_wp2_with fail
  refine (toNodeS_any _ ns _ (hvns.out.below B3 (Nat.le_refl _)) (by omega)).mono ?_
  rintro e w4 ⟨xns, rfl, oxns, b4⟩
  have ovw := own_below ovw b4 (Nat.le_refl _)
  have lxns := own_lt oxns
  have s4 := b4.size
  have B4 : Below w.heap.size w w4 := B3.trans (b4.mono B3.size)
  go_wp2_with fail
  refine (toNodeSS_own _ Is _ (hvIs.out.below B4 (Nat.le_refl _)) hnIs hlIs.out).mono ?_
  rintro e w5 ⟨xIs, rfl, oxIs, b5⟩
  have ovw := own_below ovw b5 (Nat.le_refl _)
  have oxns := own_below oxns b5 (Nat.le_refl _)
  have s5 := b5.size
  have B5 : Below w.heap.size w w5 := B4.trans (b5.mono B4.size)
  go_wp2_with fail
  refine (implSubstituteFormula_any _ ns _ Is _ (nodes_of_own oxns) oxIs.fs).mono ?_
  rintro e w6 ⟨vg, rfl, ovg, b6⟩
  have ovw := own_below ovw b6 (Nat.le_refl _)
  have oxns := own_below oxns b6 (Nat.le_refl _)
  have oxIs := oxIs.below b6 (Nat.le_refl _)
  have lvg := own_lt ovg
  have s6 := b6.size
  have B6 : Below w.heap.size w w6 := B5.trans (b6.mono B5.size)
  go_wp2_with fail
  refine (eqNodeS_same _ _ (sbR ns Is) _ (nodes_of_own ovg) (nodes_of_own ovw)).mono ?_
  rintro e w7 ⟨rfl, b7⟩
  have ovw := own_below ovw b7 (Nat.le_refl _)
  have oxns := own_below oxns b7 (Nat.le_refl _)
  have oxIs := oxIs.below b7 (Nat.le_refl _)
  have ovg := own_below ovg b7 (Nat.le_refl _)
  have s7 := b7.size
  have B7 : Below w.heap.size w w7 := B6.trans (b7.mono B6.size)
  go_wp2_with fail
  refine (toNodeS_any _ ns _ (hvns.out.below B7 (Nat.le_refl _)) (by omega)).mono ?_
  rintro e w8 ⟨yns, rfl, oyns, b8⟩
  have ovw := own_below ovw b8 (Nat.le_refl _)
  have oxns := own_below oxns b8 (Nat.le_refl _)
  have oxIs := oxIs.below b8 (Nat.le_refl _)
  have ovg := own_below ovg b8 (Nat.le_refl _)
  have lyns := own_lt oyns
  have s8 := b8.size
  have B8 : Below w.heap.size w w8 := B7.trans (b8.mono B7.size)
  go_wp2_with fail
  refine (eqNodeS_same _ _ ns _ (nodes_of_own oxns) (nodes_of_own oyns)).mono ?_
  rintro e w9 ⟨rfl, b9⟩
  have ovw := own_below ovw b9 (Nat.le_refl _)
  have oxns := own_below oxns b9 (Nat.le_refl _)
  have oxIs := oxIs.below b9 (Nat.le_refl _)
  have ovg := own_below ovg b9 (Nat.le_refl _)
  have oyns := own_below oyns b9 (Nat.le_refl _)
  have s9 := b9.size
  have B9 : Below w.heap.size w w9 := B8.trans (b9.mono B8.size)
  go_wp2_with fail
  refine (toNodeSS_own _ Is _ (hvIs.out.below B9 (Nat.le_refl _)) hnIs hlIs.out).mono ?_
  rintro e w10 ⟨yIs, rfl, oyIs, b10⟩
  have ovw := own_below ovw b10 (Nat.le_refl _)
  have oxns := own_below oxns b10 (Nat.le_refl _)
  have oxIs := oxIs.below b10 (Nat.le_refl _)
  have ovg := own_below ovg b10 (Nat.le_refl _)
  have s10 := b10.size
  have B10 : Below w.heap.size w w10 := B9.trans (b10.mono B9.size)
  go_wp2_with fail
  refine (eqNodeSS_same _ _ Is _ oxIs.fs oyIs.fs).mono ?_
  rintro e w11 ⟨rfl, b11⟩
  have ovw := own_below ovw b11 (Nat.le_refl _)
  have oxns := own_below oxns b11 (Nat.le_refl _)
  have oxIs := oxIs.below b11 (Nat.le_refl _)
  have ovg := own_below ovg b11 (Nat.le_refl _)
  have oyIs := oyIs.below b11 (Nat.le_refl _)
  have s11 := b11.size
  have B11 : Below w.heap.size w w11 := B10.trans (b11.mono B10.size)
  go_wp2_with fail
  refine (markNodeS_any _ _ _ _ _ _ oxns (by omega) (by omega)).mono ?_
  rintro e w12 ⟨rfl, omxns, g12⟩
  have t12 : Turned w3.heap.size w4.heap.size w11 w12 := Turned.of_grown g12 fun k hk => ⟨(oxns.lt k hk).1, lxns k hk⟩
  have ovw := turned_row ovw lvw t12 (by omega)
  have oxIs := oxIs.turned t12 (by omega)
  have ovg := turned_row ovg lvg t12 (by omega)
  have s12 := t12.size
  have B12 : Below w.heap.size w w12 := B11.trans (t12.below (by omega) (by omega))
  have oxns := omxns
  clear omxns
  go_wp2_with fail
  refine (markNodeSS_any _ _ _ Is _ _ oxIs (by omega) (by omega)).mono ?_
  rintro e w13 ⟨rfl, omxIs, t13⟩
  have ovw := turned_row ovw lvw t13 (by omega)
  have oxns := turned_row oxns lxns t13 (by omega)
  have ovg := turned_row ovg lvg t13 (by omega)
  have s13 := t13.size
  have B13 : Below w.heap.size w w13 := B12.trans (t13.below (by omega) (by omega))
  have oxIs := omxIs
  clear omxIs
  go_wp2_with fail
  refine (eqNodeS_same _ _ (sbR ns Is) _ (nodes_of_own ovg) (nodes_of_own ovw)).mono ?_
  rintro e w14 ⟨rfl, b14⟩
  have ovw := own_below ovw b14 (Nat.le_refl _)
  have ovg := own_below ovg b14 (Nat.le_refl _)
  have s14 := b14.size
  have B14 : Below w.heap.size w w14 := B13.trans (b14.mono B13.size)
  go_wp2_with fail
  refine (markNodeS_any _ _ _ _ _ _ ovg (by omega) (by omega)).mono ?_
  rintro e w15 ⟨rfl, omvg, g15⟩
  have t15 : Turned w5.heap.size w6.heap.size w14 w15 := Turned.of_grown g15 fun k hk => ⟨(ovg.lt k hk).1, lvg k hk⟩
  have ovw := turned_row ovw lvw t15 (by omega)
  have s15 := t15.size
  have B15 : Below w.heap.size w w15 := B14.trans (t15.below (by omega) (by omega))
  have ovg := omvg
  clear omvg
  go_wp2_with fail
  refine (heldNodeS_any _ _ _ _ (nodes_of_own ovg) (by omega) (by omega)).mono ?_
  rintro e w16 ⟨rfl, b16⟩
  have ovw := own_below ovw b16 (Nat.le_refl _)
  have ovg := own_below ovg b16 (Nat.le_refl _)
  have s16 := b16.size
  have B16 : Below w.heap.size w w16 := B15.trans (b16.mono B15.size)
  go_wp2_with fail
  refine (toNodeS_any _ ns _ (hvns.out.below B16 (Nat.le_refl _)) (by omega)).mono ?_
  rintro e w17 ⟨zns, rfl, ozns, b17⟩
  have ovw := own_below ovw b17 (Nat.le_refl _)
  have ovg := own_below ovg b17 (Nat.le_refl _)
  have lzns := own_lt ozns
  have s17 := b17.size
  have B17 : Below w.heap.size w w17 := B16.trans (b17.mono B16.size)
  go_wp2_with fail
  refine (toNodeSS_own _ Is _ (hvIs.out.below B17 (Nat.le_refl _)) hnIs hlIs.out).mono ?_
  rintro e w18 ⟨zIs, rfl, ozIs, b18⟩
  have ovw := own_below ovw b18 (Nat.le_refl _)
  have ovg := own_below ovg b18 (Nat.le_refl _)
  have ozns := own_below ozns b18 (Nat.le_refl _)
  have s18 := b18.size
  have B18 : Below w.heap.size w w18 := B17.trans (b18.mono B17.size)
  go_wp2_with fail
  refine (implSubstituteFormula_any _ ns _ Is _ (nodes_of_own ozns) ozIs.fs).mono ?_
  rintro e w19 ⟨vh, rfl, ovh, b19⟩
  have ovw := own_below ovw b19 (Nat.le_refl _)
  have ovg := own_below ovg b19 (Nat.le_refl _)
  have ozns := own_below ozns b19 (Nat.le_refl _)
  have ozIs := ozIs.below b19 (Nat.le_refl _)
  have lvh := own_lt ovh
  have s19 := b19.size
  have B19 : Below w.heap.size w w19 := B18.trans (b19.mono B18.size)
  go_wp2_with fail
  refine (eqNodeS_same _ _ (sbR ns Is) _ (nodes_of_own ovh) (nodes_of_own ovw)).mono ?_
  rintro e w20 ⟨rfl, b20⟩
  have ovw := own_below ovw b20 (Nat.le_refl _)
  have ovg := own_below ovg b20 (Nat.le_refl _)
  have ovh := own_below ovh b20 (Nat.le_refl _)
  have s20 := b20.size
  have B20 : Below w.heap.size w w20 := B19.trans (b20.mono B19.size)
  go_wp2_with fail
  refine (heldNodeS_any _ _ _ _ (nodes_of_own ovg) (by omega) (by omega)).mono ?_
  rintro e w21 ⟨rfl, b21⟩
  have ovw := own_below ovw b21 (Nat.le_refl _)
  have ovg := own_below ovg b21 (Nat.le_refl _)
  have ovh := own_below ovh b21 (Nat.le_refl _)
  have s21 := b21.size
  have B21 : Below w.heap.size w w21 := B20.trans (b21.mono B20.size)
  go_wp2_with fail
  go_ret
  exact ⟨rfl, B21⟩
end Go.Proofs.Ytadinbjhpbomkaa
