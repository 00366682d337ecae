/- The laws' own walks, from the contracts of what they call (written by walkgen2.py): UnifyFormulas. -/
import Derived.Test.YtdpnkojchimmfaaTurn
import Derived.Test.YtdpnkojchimmfaaComposeTwo
import Derived.Test.YtdpnkojchimmfaaUnifFour
import Derived.Test.YtdpnkojchimmfaaUnifWalk
namespace Go.Proofs.Ytdpnkojchimmfaa
open Go.RowKit
set_option linter.unusedVariables false

set_option maxHeartbeats 2000000 in
theorem w_FnExactUnifyFormulas (va : Value) (a : List Nd) (vb : Value) (b : List Nd) (w : World) (ha : Nodes w va a) (hb : Nodes w vb b) :
    Calls Try.prog 3 #[va, vb] w fun e w' => e = .returned (.bool true) ∧ Below w.heap.size w w' := by
  have hlen := uniR_tot a b
  have hca := ha.cap
  unfold maxLen at hca
  have hva := Lib.hid ha
  clear ha
  have hcb := hb.cap
  unfold maxLen at hcb
  have hvb := Lib.hid hb
  clear hb
  go_enter Try.func3, Try.ntmps3
  go_wp2_with fail
  refine (szNodeS_any _ a _ _ hva.out (by omega) (by omega)).mono ?_
  rintro e w' ⟨rfl, rfl⟩
  by_cases hla : (1048576 : Int) < ((a.length : Nat) : Int)
  · rw [szR_lt hla]
    go_wp2_with fail
    go_ret
    exact ⟨rfl, Below.refl _ _⟩
  have hla : ((a.length : Nat) : Int) ≤ (1048576 : Int) := by omega
  rw [szR_ge (by omega)]
  go_wp2_with fail
  refine (szNodeS_any _ b _ _ hvb.out (by omega) (by omega)).mono ?_
  rintro e w' ⟨rfl, rfl⟩
  by_cases hlb : (1048576 : Int) - ((a.length : Nat) : Int) < ((b.length : Nat) : Int)
  · rw [szR_lt hlb]
    go_wp2_with fail
    go_ret
    exact ⟨rfl, Below.refl _ _⟩
  have hlb : ((b.length : Nat) : Int) ≤ (1048576 : Int) - ((a.length : Nat) : Int) := by omega
  rw [szR_ge (by omega)]
  go_wp2_with fail
  refine (toNodeS_any _ a _ hva.out (by omega)).mono ?_
  rintro e w1 ⟨ta, rfl, ota, b1⟩
  have lta := own_lt ota
  have s1 := b1.size
  have B1 : Below w.heap.size w w1 := b1
  go_wp2_with fail
  refine (toNodeS_any _ b _ (hvb.out.below B1 (Nat.le_refl _)) (by omega)).mono ?_
  rintro e w2 ⟨tb, rfl, otb, b2⟩
  have ota := own_below ota b2 (Nat.le_refl _)
  have ltb := own_lt otb
  have s2 := b2.size
  have B2 : Below w.heap.size w w2 := B1.trans (b2.mono B1.size)
  go_wp2_with fail
  refine (specUnifyFormulas_any _ a _ b _ (nodes_of_own ota) (nodes_of_own otb)).mono ?_
  rintro e w3 ⟨vw, rfl, fvw, b3⟩
  have ota := own_below ota b3 (Nat.le_refl _)
  have otb := own_below otb b3 (Nat.le_refl _)
  have Avw := Below.refl w3.heap.size w3
  have s3 := b3.size
  have B3 : Below w.heap.size w w3 := B2.trans (b3.mono B2.size)
  go_wp2_with fail
  refine (toNodeS_any _ a _ (hva.out.below B3 (Nat.le_refl _)) (by omega)).mono ?_
  rintro e w4 ⟨xa, rfl, oxa, b4⟩
  have Avw := Avw.trans (b4.mono Avw.size)
  have lxa := own_lt oxa
  have s4 := b4.size
  have B4 : Below w.heap.size w w4 := B3.trans (b4.mono B3.size)
  go_wp2_with fail
  refine (toNodeS_any _ b _ (hvb.out.below B4 (Nat.le_refl _)) (by omega)).mono ?_
  rintro e w5 ⟨xb, rfl, oxb, b5⟩
  have Avw := Avw.trans (b5.mono Avw.size)
  have oxa := own_below oxa b5 (Nat.le_refl _)
  have lxb := own_lt oxb
  have s5 := b5.size
  have B5 : Below w.heap.size w w5 := B4.trans (b5.mono B4.size)
  go_wp2_with fail
  refine (implUnifyFormulas_any _ a _ b _ (nodes_of_own oxa) (nodes_of_own oxb)).mono ?_
  rintro e w6 ⟨vg, rfl, ovg, b6⟩
  have Avw := Avw.trans (b6.mono Avw.size)
  have oxa := own_below oxa b6 (Nat.le_refl _)
  have oxb := own_below oxb b6 (Nat.le_refl _)
  have s6 := b6.size
  have B6 : Below w.heap.size w w6 := B5.trans (b6.mono B5.size)
  go_wp2_with fail
  refine (eqNodeSS_same _ _ (uniR a b) _ ovg.fs (fvw.below Avw (Nat.le_refl _))).mono ?_
  rintro e w7 ⟨rfl, b7⟩
  have Avw := Avw.trans (b7.mono Avw.size)
  have oxa := own_below oxa b7 (Nat.le_refl _)
  have oxb := own_below oxb b7 (Nat.le_refl _)
  have ovg := ovg.below b7 (Nat.le_refl _)
  have s7 := b7.size
  have B7 : Below w.heap.size w w7 := B6.trans (b7.mono B6.size)
  go_wp2_with fail
  refine (toNodeS_any _ a _ (hva.out.below B7 (Nat.le_refl _)) (by omega)).mono ?_
  rintro e w8 ⟨ya, rfl, oya, b8⟩
  have Avw := Avw.trans (b8.mono Avw.size)
  have oxa := own_below oxa b8 (Nat.le_refl _)
  have oxb := own_below oxb b8 (Nat.le_refl _)
  have ovg := ovg.below b8 (Nat.le_refl _)
  have lya := own_lt oya
  have s8 := b8.size
  have B8 : Below w.heap.size w w8 := B7.trans (b8.mono B7.size)
  go_wp2_with fail
  refine (eqNodeS_same _ _ a _ (nodes_of_own oxa) (nodes_of_own oya)).mono ?_
  rintro e w9 ⟨rfl, b9⟩
  have Avw := Avw.trans (b9.mono Avw.size)
  have oxa := own_below oxa b9 (Nat.le_refl _)
  have oxb := own_below oxb b9 (Nat.le_refl _)
  have ovg := ovg.below b9 (Nat.le_refl _)
  have oya := own_below oya b9 (Nat.le_refl _)
  have s9 := b9.size
  have B9 : Below w.heap.size w w9 := B8.trans (b9.mono B8.size)
  go_wp2_with fail
  refine (toNodeS_any _ b _ (hvb.out.below B9 (Nat.le_refl _)) (by omega)).mono ?_
  rintro e w10 ⟨yb, rfl, oyb, b10⟩
  have Avw := Avw.trans (b10.mono Avw.size)
  have oxa := own_below oxa b10 (Nat.le_refl _)
  have oxb := own_below oxb b10 (Nat.le_refl _)
  have ovg := ovg.below b10 (Nat.le_refl _)
  have lyb := own_lt oyb
  have s10 := b10.size
  have B10 : Below w.heap.size w w10 := B9.trans (b10.mono B9.size)
  go_wp2_with fail
  refine (eqNodeS_same _ _ b _ (nodes_of_own oxb) (nodes_of_own oyb)).mono ?_
  rintro e w11 ⟨rfl, b11⟩
  have Avw := Avw.trans (b11.mono Avw.size)
  have oxa := own_below oxa b11 (Nat.le_refl _)
  have oxb := own_below oxb b11 (Nat.le_refl _)
  have ovg := ovg.below b11 (Nat.le_refl _)
  have oyb := own_below oyb b11 (Nat.le_refl _)
  have s11 := b11.size
  have B11 : Below w.heap.size w w11 := B10.trans (b11.mono B10.size)
  go_wp2_with fail
  refine (markNodeS_any _ _ _ _ _ _ oxa (by omega) (by omega)).mono ?_
  rintro e w12 ⟨rfl, omxa, g12⟩
  have t12 : Turned w3.heap.size w4.heap.size w11 w12 := Turned.of_grown g12 fun k hk => ⟨(oxa.lt k hk).1, lxa k hk⟩
  have Avw := Avw.trans (t12.below (by omega) (by omega))
  have oxb := turned_row oxb lxb t12 (by omega)
  have ovg := ovg.turned t12 (by omega)
  have s12 := t12.size
  have B12 : Below w.heap.size w w12 := B11.trans (t12.below (by omega) (by omega))
  have oxa := omxa
  clear omxa
  go_wp2_with fail
  refine (markNodeS_any _ _ _ _ _ _ oxb (by omega) (by omega)).mono ?_
  rintro e w13 ⟨rfl, omxb, g13⟩
  have t13 : Turned w4.heap.size w5.heap.size w12 w13 := Turned.of_grown g13 fun k hk => ⟨(oxb.lt k hk).1, lxb k hk⟩
  have Avw := Avw.trans (t13.below (by omega) (by omega))
  have oxa := turned_row oxa lxa t13 (by omega)
  have ovg := ovg.turned t13 (by omega)
  have s13 := t13.size
  have B13 : Below w.heap.size w w13 := B12.trans (t13.below (by omega) (by omega))
  have oxb := omxb
  clear omxb
  go_wp2_with fail
  refine (eqNodeSS_same _ _ (uniR a b) _ ovg.fs (fvw.below Avw (Nat.le_refl _))).mono ?_
  rintro e w14 ⟨rfl, b14⟩
  have Avw := Avw.trans (b14.mono Avw.size)
  have ovg := ovg.below b14 (Nat.le_refl _)
  have s14 := b14.size
  have B14 : Below w.heap.size w w14 := B13.trans (b14.mono B13.size)
  go_wp2_with fail
  refine (markNodeSS_any _ _ _ (uniR a b) _ _ ovg (by omega) (by omega)).mono ?_
  rintro e w15 ⟨rfl, omvg, t15⟩
  have Avw := Avw.trans (t15.below (by omega) (by omega))
  have s15 := t15.size
  have B15 : Below w.heap.size w w15 := B14.trans (t15.below (by omega) (by omega))
  have ovg := omvg
  clear omvg
  go_wp2_with fail
  refine (heldNodeSS_any _ (uniR a b) _ _ ovg.fs (by omega) (by omega)).mono ?_
  rintro e w16 ⟨rfl, b16⟩
  have Avw := Avw.trans (b16.mono Avw.size)
  have ovg := ovg.below b16 (Nat.le_refl _)
  have s16 := b16.size
  have B16 : Below w.heap.size w w16 := B15.trans (b16.mono B15.size)
  go_wp2_with fail
  refine (toNodeS_any _ a _ (hva.out.below B16 (Nat.le_refl _)) (by omega)).mono ?_
  rintro e w17 ⟨za, rfl, oza, b17⟩
  have Avw := Avw.trans (b17.mono Avw.size)
  have ovg := ovg.below b17 (Nat.le_refl _)
  have lza := own_lt oza
  have s17 := b17.size
  have B17 : Below w.heap.size w w17 := B16.trans (b17.mono B16.size)
  go_wp2_with fail
  refine (toNodeS_any _ b _ (hvb.out.below B17 (Nat.le_refl _)) (by omega)).mono ?_
  rintro e w18 ⟨zb, rfl, ozb, b18⟩
  have Avw := Avw.trans (b18.mono Avw.size)
  have ovg := ovg.below b18 (Nat.le_refl _)
  have oza := own_below oza b18 (Nat.le_refl _)
  have lzb := own_lt ozb
  have s18 := b18.size
  have B18 : Below w.heap.size w w18 := B17.trans (b18.mono B17.size)
  go_wp2_with fail
  refine (implUnifyFormulas_any _ a _ b _ (nodes_of_own oza) (nodes_of_own ozb)).mono ?_
  rintro e w19 ⟨vh, rfl, ovh, b19⟩
  have Avw := Avw.trans (b19.mono Avw.size)
  have ovg := ovg.below b19 (Nat.le_refl _)
  have oza := own_below oza b19 (Nat.le_refl _)
  have ozb := own_below ozb b19 (Nat.le_refl _)
  have s19 := b19.size
  have B19 : Below w.heap.size w w19 := B18.trans (b19.mono B18.size)
  go_wp2_with fail
  refine (eqNodeSS_same _ _ (uniR a b) _ ovh.fs (fvw.below Avw (Nat.le_refl _))).mono ?_
  rintro e w20 ⟨rfl, b20⟩
  have Avw := Avw.trans (b20.mono Avw.size)
  have ovg := ovg.below b20 (Nat.le_refl _)
  have ovh := ovh.below b20 (Nat.le_refl _)
  have s20 := b20.size
  have B20 : Below w.heap.size w w20 := B19.trans (b20.mono B19.size)
  go_wp2_with fail
  refine (heldNodeSS_any _ (uniR a b) _ _ ovg.fs (by omega) (by omega)).mono ?_
  rintro e w21 ⟨rfl, b21⟩
  have Avw := Avw.trans (b21.mono Avw.size)
  have ovg := ovg.below b21 (Nat.le_refl _)
  have ovh := ovh.below b21 (Nat.le_refl _)
  have s21 := b21.size
  have B21 : Below w.heap.size w w21 := B20.trans (b21.mono B20.size)
  go_wp2_with fail
  go_ret
  exact ⟨rfl, B21⟩
end Go.Proofs.Ytdpnkojchimmfaa
