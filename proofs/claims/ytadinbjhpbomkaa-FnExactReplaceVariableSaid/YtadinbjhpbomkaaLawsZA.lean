/- The laws' own walks, from the contracts of what they call (written by walkgen.py): ReplaceVariable. -/
import Derived.Test.YtadinbjhpbomkaaReplThree
namespace Go.Proofs.Ytadinbjhpbomkaa
open Go.RowKit
set_option linter.unusedVariables false

set_option maxHeartbeats 1000000 in
theorem w_FnExactReplaceVariable (vns : Value) (ns : List Nd) (u : Int) (vbs : Value) (bs : List Nd) (w : World) (hns : Nodes w vns ns) (_hu : (Lit.int .i64 u).wf = true) (hbs : Nodes w vbs bs) :
    Calls Try.prog 4 #[vns, .int .i64 u, vbs] w fun e w' => e = .returned (.bool true) ∧ Below w.heap.size w w' := by
  have hcns := hns.cap
  unfold maxLen at hcns
  have hvns := Lib.hid hns
  clear hns
  have hcbs := hbs.cap
  unfold maxLen at hcbs
  have hvbs := Lib.hid hbs
  clear hbs
  have hlen := replR_length ns u bs
  by_cases hlns : (1048576 : Int) < (ns.length : Nat)
  · have hsns := szR_lt hlns
    go_enter Try.func4, Try.ntmps4
    go_wp2_with fail
    refine (szNodeS_any _ ns _ _ hvns.out (by omega) (by omega)).mono ?_
    rintro e w' ⟨rfl, rfl⟩
    go_wp2_with fail
    go_ret
    exact ⟨rfl, Below.refl _ _⟩
  have hlns : ((ns.length : Nat) : Int) ≤ (1048576 : Int) := by omega
  have hsns := szR_ge hlns
  by_cases hlbs : (1048576 : Int) - (ns.length : Nat) < (bs.length : Nat)
  · have hsbs := szR_lt hlbs
    go_enter Try.func4, Try.ntmps4
    go_wp2_with fail
    refine (szNodeS_any _ ns _ _ hvns.out (by omega) (by omega)).mono ?_
    rintro e w' ⟨rfl, rfl⟩
    go_wp2_with fail
    refine (szNodeS_any _ bs _ _ hvbs.out (by omega) (by omega)).mono ?_
    rintro e w' ⟨rfl, rfl⟩
    go_wp2_with fail
    go_ret
    exact ⟨rfl, Below.refl _ _⟩
  have hlbs : ((bs.length : Nat) : Int) ≤ (1048576 : Int) - (ns.length : Nat) := by omega
  have hsbs := szR_ge hlbs
  go_enter Try.func4, Try.ntmps4
  go_wp2_with fail
  refine (szNodeS_any _ ns _ _ hvns.out (by omega) (by omega)).mono ?_
  rintro e w' ⟨rfl, rfl⟩
  go_wp2_with fail
  refine (szNodeS_any _ bs _ _ hvbs.out (by omega) (by omega)).mono ?_
  rintro e w' ⟨rfl, rfl⟩
  go_wp2_with fail
  refine (toNodeS_any _ ns _ hvns.out (by omega)).mono ?_
  rintro e w1 ⟨tns, rfl, otns, b1⟩
  have ltns := own_lt otns
  have s1 := b1.size
  have B1 : Below w.heap.size w w1 := b1
  go_wp2_with fail
  refine (toNodeS_any _ bs _ (hvbs.out.below B1 (Nat.le_refl _)) (by omega)).mono ?_
  rintro e w2 ⟨tbs, rfl, otbs, b2⟩
  have otns := own_below otns b2 (Nat.le_refl _)
  have ltbs := own_lt otbs
  have s2 := b2.size
  have B2 : Below w.heap.size w w2 := B1.trans (b2.mono B1.size)
  go_wp2_with fail
  refine (specReplaceVariable_any _ ns _ _ bs _ (nodes_of_own otns) (nodes_of_own otbs)).mono ?_
  rintro e w3 ⟨vw, rfl, ovw, b3⟩
  have otns := own_below otns b3 (Nat.le_refl _)
  have otbs := own_below otbs b3 (Nat.le_refl _)
  have lvw := own_lt ovw
  have s3 := b3.size
  have B3 : Below w.heap.size w w3 := B2.trans (b3.mono B2.size)
  go_wp2_with fail
  refine (toNodeS_any _ ns _ (hvns.out.below B3 (Nat.le_refl _)) (by omega)).mono ?_
  rintro e w4 ⟨xns, rfl, oxns, b4⟩
  have ovw := own_below ovw b4 (Nat.le_refl _)
  have lxns := own_lt oxns
  have s4 := b4.size
  have B4 : Below w.heap.size w w4 := B3.trans (b4.mono B3.size)
  go_wp2_with fail
  refine (toNodeS_any _ bs _ (hvbs.out.below B4 (Nat.le_refl _)) (by omega)).mono ?_
  rintro e w5 ⟨xbs, rfl, oxbs, b5⟩
  have ovw := own_below ovw b5 (Nat.le_refl _)
  have oxns := own_below oxns b5 (Nat.le_refl _)
  have lxbs := own_lt oxbs
  have s5 := b5.size
  have B5 : Below w.heap.size w w5 := B4.trans (b5.mono B4.size)
  go_wp2_with fail
  refine (implReplaceVariable_any _ ns _ _ bs _ (nodes_of_own oxns) (nodes_of_own oxbs)).mono ?_
  rintro e w6 ⟨vg, rfl, ovg, b6⟩
  have ovw := own_below ovw b6 (Nat.le_refl _)
  have oxns := own_below oxns b6 (Nat.le_refl _)
  have oxbs := own_below oxbs b6 (Nat.le_refl _)
  have lvg := own_lt ovg
  have s6 := b6.size
  have B6 : Below w.heap.size w w6 := B5.trans (b6.mono B5.size)
  go_wp2_with fail
  refine (eqNodeS_same _ _ (replR ns u bs) _ (nodes_of_own ovg) (nodes_of_own ovw)).mono ?_
  rintro e w7 ⟨rfl, b7⟩
  have ovw := own_below ovw b7 (Nat.le_refl _)
  have oxns := own_below oxns b7 (Nat.le_refl _)
  have oxbs := own_below oxbs b7 (Nat.le_refl _)
  have ovg := own_below ovg b7 (Nat.le_refl _)
  have s7 := b7.size
  have B7 : Below w.heap.size w w7 := B6.trans (b7.mono B6.size)
  go_wp2_with fail
  refine (toNodeS_any _ ns _ (hvns.out.below B7 (Nat.le_refl _)) (by omega)).mono ?_
  rintro e w8 ⟨yns, rfl, oyns, b8⟩
  have ovw := own_below ovw b8 (Nat.le_refl _)
  have oxns := own_below oxns b8 (Nat.le_refl _)
  have oxbs := own_below oxbs b8 (Nat.le_refl _)
  have ovg := own_below ovg b8 (Nat.le_refl _)
  have lyns := own_lt oyns
  have s8 := b8.size
  have B8 : Below w.heap.size w w8 := B7.trans (b8.mono B7.size)
  go_wp2_with fail
  refine (eqNodeS_same _ _ ns _ (nodes_of_own oxns) (nodes_of_own oyns)).mono ?_
  rintro e w9 ⟨rfl, b9⟩
  have ovw := own_below ovw b9 (Nat.le_refl _)
  have oxns := own_below oxns b9 (Nat.le_refl _)
  have oxbs := own_below oxbs b9 (Nat.le_refl _)
  have ovg := own_below ovg b9 (Nat.le_refl _)
  have oyns := own_below oyns b9 (Nat.le_refl _)
  have s9 := b9.size
  have B9 : Below w.heap.size w w9 := B8.trans (b9.mono B8.size)
  go_wp2_with fail
  refine (toNodeS_any _ bs _ (hvbs.out.below B9 (Nat.le_refl _)) (by omega)).mono ?_
  rintro e w10 ⟨ybs, rfl, oybs, b10⟩
  have ovw := own_below ovw b10 (Nat.le_refl _)
  have oxns := own_below oxns b10 (Nat.le_refl _)
  have oxbs := own_below oxbs b10 (Nat.le_refl _)
  have ovg := own_below ovg b10 (Nat.le_refl _)
  have lybs := own_lt oybs
  have s10 := b10.size
  have B10 : Below w.heap.size w w10 := B9.trans (b10.mono B9.size)
  go_wp2_with fail
  refine (eqNodeS_same _ _ bs _ (nodes_of_own oxbs) (nodes_of_own oybs)).mono ?_
  rintro e w11 ⟨rfl, b11⟩
  have ovw := own_below ovw b11 (Nat.le_refl _)
  have oxns := own_below oxns b11 (Nat.le_refl _)
  have oxbs := own_below oxbs b11 (Nat.le_refl _)
  have ovg := own_below ovg b11 (Nat.le_refl _)
  have oybs := own_below oybs b11 (Nat.le_refl _)
  have s11 := b11.size
  have B11 : Below w.heap.size w w11 := B10.trans (b11.mono B10.size)
  go_wp2_with fail
  refine (markNodeS_any _ _ _ _ _ _ oxns (by omega) (by omega)).mono ?_
  rintro e w12 ⟨rfl, omxns, g12⟩
  have ovw := own_apart ovw oxns (fun k hk => Nat.lt_of_lt_of_le (lvw k hk) (by omega)) g12
  have oxbs := own_apart2 oxbs (fun k hk => Nat.lt_of_lt_of_le (lxns k hk) (by omega)) g12
  have ovg := own_apart2 ovg (fun k hk => Nat.lt_of_lt_of_le (lxns k hk) (by omega)) g12
  have s12 := g12.size
  have B12 : Below w.heap.size w w12 := B11.trans (below_mark oxns g12 (by omega) (by omega))
  have oxns := omxns
  clear omxns
  go_wp2_with fail
  refine (markNodeS_any _ _ _ _ _ _ oxbs (by omega) (by omega)).mono ?_
  rintro e w13 ⟨rfl, omxbs, g13⟩
  have ovw := own_apart ovw oxbs (fun k hk => Nat.lt_of_lt_of_le (lvw k hk) (by omega)) g13
  have oxns := own_apart oxns oxbs (fun k hk => Nat.lt_of_lt_of_le (lxns k hk) (by omega)) g13
  have ovg := own_apart2 ovg (fun k hk => Nat.lt_of_lt_of_le (lxbs k hk) (by omega)) g13
  have s13 := g13.size
  have B13 : Below w.heap.size w w13 := B12.trans (below_mark oxbs g13 (by omega) (by omega))
  have oxbs := omxbs
  clear omxbs
  go_wp2_with fail
  refine (eqNodeS_same _ _ (replR ns u bs) _ (nodes_of_own ovg) (nodes_of_own ovw)).mono ?_
  rintro e w14 ⟨rfl, b14⟩
  have ovw := own_below ovw b14 (Nat.le_refl _)
  have ovg := own_below ovg b14 (Nat.le_refl _)
  have s14 := b14.size
  have B14 : Below w.heap.size w w14 := B13.trans (b14.mono B13.size)
  go_wp2_with fail
  refine (markNodeS_any _ _ _ _ _ _ ovg (by omega) (by omega)).mono ?_
  rintro e w15 ⟨rfl, omvg, g15⟩
  have ovw := own_apart ovw ovg (fun k hk => Nat.lt_of_lt_of_le (lvw k hk) (by omega)) g15
  have s15 := g15.size
  have B15 : Below w.heap.size w w15 := B14.trans (below_mark ovg g15 (by omega) (by omega))
  have ovg := omvg
  clear omvg
  go_wp2_with fail
  refine (heldNodeS_any _ _ _ _ (nodes_of_own ovg) (by omega) (by omega)).mono ?_
  rintro e w16 ⟨rfl, b16⟩
  have ovw := own_below ovw b16 (Nat.le_refl _)
  have ovg := own_below ovg b16 (Nat.le_refl _)
  have s16 := b16.size
  have B16 : Below w.heap.size w w16 := B15.trans (b16.mono B15.size)
  go_wp2_with fail
  refine (toNodeS_any _ ns _ (hvns.out.below B16 (Nat.le_refl _)) (by omega)).mono ?_
  rintro e w17 ⟨zns, rfl, ozns, b17⟩
  have ovw := own_below ovw b17 (Nat.le_refl _)
  have ovg := own_below ovg b17 (Nat.le_refl _)
  have lzns := own_lt ozns
  have s17 := b17.size
  have B17 : Below w.heap.size w w17 := B16.trans (b17.mono B16.size)
  go_wp2_with fail
  refine (toNodeS_any _ bs _ (hvbs.out.below B17 (Nat.le_refl _)) (by omega)).mono ?_
  rintro e w18 ⟨zbs, rfl, ozbs, b18⟩
  have ovw := own_below ovw b18 (Nat.le_refl _)
  have ovg := own_below ovg b18 (Nat.le_refl _)
  have ozns := own_below ozns b18 (Nat.le_refl _)
  have lzbs := own_lt ozbs
  have s18 := b18.size
  have B18 : Below w.heap.size w w18 := B17.trans (b18.mono B17.size)
  go_wp2_with fail
  refine (implReplaceVariable_any _ ns _ _ bs _ (nodes_of_own ozns) (nodes_of_own ozbs)).mono ?_
  rintro e w19 ⟨vh, rfl, ovh, b19⟩
  have ovw := own_below ovw b19 (Nat.le_refl _)
  have ovg := own_below ovg b19 (Nat.le_refl _)
  have ozns := own_below ozns b19 (Nat.le_refl _)
  have ozbs := own_below ozbs b19 (Nat.le_refl _)
  have lvh := own_lt ovh
  have s19 := b19.size
  have B19 : Below w.heap.size w w19 := B18.trans (b19.mono B18.size)
  go_wp2_with fail
  refine (eqNodeS_same _ _ (replR ns u bs) _ (nodes_of_own ovh) (nodes_of_own ovw)).mono ?_
  rintro e w20 ⟨rfl, b20⟩
  have ovw := own_below ovw b20 (Nat.le_refl _)
  have ovg := own_below ovg b20 (Nat.le_refl _)
  have ovh := own_below ovh b20 (Nat.le_refl _)
  have s20 := b20.size
  have B20 : Below w.heap.size w w20 := B19.trans (b20.mono B19.size)
  go_wp2_with fail
  refine (heldNodeS_any _ _ _ _ (nodes_of_own ovg) (by omega) (by omega)).mono ?_
  rintro e w21 ⟨rfl, b21⟩
  have ovw := own_below ovw b21 (Nat.le_refl _)
  have ovg := own_below ovg b21 (Nat.le_refl _)
  have ovh := own_below ovh b21 (Nat.le_refl _)
  have s21 := b21.size
  have B21 : Below w.heap.size w w21 := B20.trans (b21.mono B20.size)
  go_wp2_with fail
  go_ret
  exact ⟨rfl, B21⟩
end Go.Proofs.Ytadinbjhpbomkaa
