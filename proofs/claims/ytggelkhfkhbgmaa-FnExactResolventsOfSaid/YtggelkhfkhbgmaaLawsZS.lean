/- The laws' own walks, from the contracts of what they call (written by walkgen2.py): ResolventsOf. -/
import Derived.Test.YtggelkhfkhbgmaaTurn
import Derived.Test.YtggelkhfkhbgmaaInts
import Derived.Test.YtggelkhfkhbgmaaIntSSRow
import Derived.Test.YtggelkhfkhbgmaaResOf
namespace Go.Proofs.Ytggelkhfkhbgmaa
open Go.RowKit
set_option linter.unusedVariables false

set_option maxHeartbeats 2000000 in
theorem w_FnExactResolventsOf (vp : Value) (p : List Int) (vq : Value) (q : List Int) (w : World) (hp : Ints w vp p) (_zp : ∀ x ∈ p, (Lit.int .i64 x).wf = true) (hq : Ints w vq q) (_zq : ∀ x ∈ q, (Lit.int .i64 x).wf = true) :
    Calls Try.prog 3 #[vp, vq] w fun e w' => e = .returned (.bool true) ∧ Below w.heap.size w w' := by
  have hlen := rsR_tot p q
  have hcp := hp.cap
  unfold maxLen at hcp
  have hqp := hp
  obtain ⟨_, ap, cp, bp, op, rfl, _⟩ := hp.opened
  have hvp := Lib.hid hqp
  clear hp hqp
  have hcq := hq.cap
  unfold maxLen at hcq
  have hqq := hq
  obtain ⟨_, aq, cq, bq, oq, rfl, _⟩ := hq.opened
  have hvq := Lib.hid hqq
  clear hq hqq
  go_enter Try.func3, Try.ntmps3
  by_cases hlp : 1048576 < p.length
  · go_wp2_with fail
    go_ret
    exact ⟨rfl, Below.refl _ _⟩
  by_cases hlq : 1048576 < q.length
  · go_wp2_with fail
    go_ret
    exact ⟨rfl, Below.refl _ _⟩
  go_wp2_with fail
  refine (toInt64S_any _ p _ hvp.out (by omega)).mono ?_
  rintro e w1 ⟨tp, rfl, otp, b1⟩
  have ltp := own_lt otp
  have s1 := b1.size
  have B1 : Below w.heap.size w w1 := b1
  go_wp2_with fail
  refine (toInt64S_any _ q _ (hvq.out.below B1 (Nat.le_refl _)) (by omega)).mono ?_
  rintro e w2 ⟨tq, rfl, otq, b2⟩
  have otp := own_below otp b2 (Nat.le_refl _)
  have ltq := own_lt otq
  have s2 := b2.size
  have B2 : Below w.heap.size w w2 := B1.trans (b2.mono B1.size)
  go_wp2_with fail
  refine (specResolventsOf_any _ _ p q _ (ints_of_own otp) (ints_of_own otq)).mono ?_
  rintro e w3 ⟨vw, rfl, fvw, b3⟩
  have otp := own_below otp b3 (Nat.le_refl _)
  have otq := own_below otq b3 (Nat.le_refl _)
  have Avw := Below.refl w3.heap.size w3
  have s3 := b3.size
  have B3 : Below w.heap.size w w3 := B2.trans (b3.mono B2.size)
  go_wp2_with fail
  refine (toInt64S_any _ p _ (hvp.out.below B3 (Nat.le_refl _)) (by omega)).mono ?_
  rintro e w4 ⟨xp, rfl, oxp, b4⟩
  have Avw := Avw.trans (b4.mono Avw.size)
  have lxp := own_lt oxp
  have s4 := b4.size
  have B4 : Below w.heap.size w w4 := B3.trans (b4.mono B3.size)
  go_wp2_with fail
  refine (toInt64S_any _ q _ (hvq.out.below B4 (Nat.le_refl _)) (by omega)).mono ?_
  rintro e w5 ⟨xq, rfl, oxq, b5⟩
  have Avw := Avw.trans (b5.mono Avw.size)
  have oxp := own_below oxp b5 (Nat.le_refl _)
  have lxq := own_lt oxq
  have s5 := b5.size
  have B5 : Below w.heap.size w w5 := B4.trans (b5.mono B4.size)
  go_wp2_with fail
  refine (implResolventsOf_any _ _ p q _ (ints_of_own oxp) (ints_of_own oxq)).mono ?_
  rintro e w6 ⟨vg, rfl, ovg, b6⟩
  have Avw := Avw.trans (b6.mono Avw.size)
  have oxp := own_below oxp b6 (Nat.le_refl _)
  have oxq := own_below oxq b6 (Nat.le_refl _)
  have s6 := b6.size
  have B6 : Below w.heap.size w w6 := B5.trans (b6.mono B5.size)
  go_wp2_with fail
  refine (eqInt64SS_same _ _ (rsR p q) _ ovg.fs (fvw.below Avw (Nat.le_refl _))).mono ?_
  rintro e w7 ⟨rfl, b7⟩
  have Avw := Avw.trans (b7.mono Avw.size)
  have oxp := own_below oxp b7 (Nat.le_refl _)
  have oxq := own_below oxq b7 (Nat.le_refl _)
  have ovg := ovg.below b7 (Nat.le_refl _)
  have s7 := b7.size
  have B7 : Below w.heap.size w w7 := B6.trans (b7.mono B6.size)
  go_wp2_with fail
  refine (toInt64S_any _ p _ (hvp.out.below B7 (Nat.le_refl _)) (by omega)).mono ?_
  rintro e w8 ⟨yp, rfl, oyp, b8⟩
  have Avw := Avw.trans (b8.mono Avw.size)
  have oxp := own_below oxp b8 (Nat.le_refl _)
  have oxq := own_below oxq b8 (Nat.le_refl _)
  have ovg := ovg.below b8 (Nat.le_refl _)
  have lyp := own_lt oyp
  have s8 := b8.size
  have B8 : Below w.heap.size w w8 := B7.trans (b8.mono B7.size)
  go_wp2_with fail
  refine (eqInt64S_same _ _ p _ (ints_of_own oxp) (ints_of_own oyp)).mono ?_
  rintro e w9 ⟨rfl, b9⟩
  have Avw := Avw.trans (b9.mono Avw.size)
  have oxp := own_below oxp b9 (Nat.le_refl _)
  have oxq := own_below oxq b9 (Nat.le_refl _)
  have ovg := ovg.below b9 (Nat.le_refl _)
  have oyp := own_below oyp b9 (Nat.le_refl _)
  have s9 := b9.size
  have B9 : Below w.heap.size w w9 := B8.trans (b9.mono B8.size)
  go_wp2_with fail
  refine (toInt64S_any _ q _ (hvq.out.below B9 (Nat.le_refl _)) (by omega)).mono ?_
  rintro e w10 ⟨yq, rfl, oyq, b10⟩
  have Avw := Avw.trans (b10.mono Avw.size)
  have oxp := own_below oxp b10 (Nat.le_refl _)
  have oxq := own_below oxq b10 (Nat.le_refl _)
  have ovg := ovg.below b10 (Nat.le_refl _)
  have lyq := own_lt oyq
  have s10 := b10.size
  have B10 : Below w.heap.size w w10 := B9.trans (b10.mono B9.size)
  go_wp2_with fail
  refine (eqInt64S_same _ _ q _ (ints_of_own oxq) (ints_of_own oyq)).mono ?_
  rintro e w11 ⟨rfl, b11⟩
  have Avw := Avw.trans (b11.mono Avw.size)
  have oxp := own_below oxp b11 (Nat.le_refl _)
  have oxq := own_below oxq b11 (Nat.le_refl _)
  have ovg := ovg.below b11 (Nat.le_refl _)
  have oyq := own_below oyq b11 (Nat.le_refl _)
  have s11 := b11.size
  have B11 : Below w.heap.size w w11 := B10.trans (b11.mono B10.size)
  go_wp2_with fail
  refine (markInt64S_any _ _ _ _ _ _ oxp (by omega) (by omega)).mono ?_
  rintro e w12 ⟨rfl, omxp, g12⟩
  have t12 : Turned w3.heap.size w4.heap.size w11 w12 := Turned.of_grown g12 fun k hk => ⟨(oxp.lt k hk).1, lxp k hk⟩
  have Avw := Avw.trans (t12.below (by omega) (by omega))
  have oxq := turned_row oxq lxq t12 (by omega)
  have ovg := ovg.turned t12 (by omega)
  have s12 := t12.size
  have B12 : Below w.heap.size w w12 := B11.trans (t12.below (by omega) (by omega))
  have oxp := omxp
  clear omxp
  go_wp2_with fail
  refine (markInt64S_any _ _ _ _ _ _ oxq (by omega) (by omega)).mono ?_
  rintro e w13 ⟨rfl, omxq, g13⟩
  have t13 : Turned w4.heap.size w5.heap.size w12 w13 := Turned.of_grown g13 fun k hk => ⟨(oxq.lt k hk).1, lxq k hk⟩
  have Avw := Avw.trans (t13.below (by omega) (by omega))
  have oxp := turned_row oxp lxp t13 (by omega)
  have ovg := ovg.turned t13 (by omega)
  have s13 := t13.size
  have B13 : Below w.heap.size w w13 := B12.trans (t13.below (by omega) (by omega))
  have oxq := omxq
  clear omxq
  go_wp2_with fail
  refine (eqInt64SS_same _ _ (rsR p q) _ ovg.fs (fvw.below Avw (Nat.le_refl _))).mono ?_
  rintro e w14 ⟨rfl, b14⟩
  have Avw := Avw.trans (b14.mono Avw.size)
  have ovg := ovg.below b14 (Nat.le_refl _)
  have s14 := b14.size
  have B14 : Below w.heap.size w w14 := B13.trans (b14.mono B13.size)
  go_wp2_with fail
  refine (markInt64SS_any _ _ _ (rsR p q) _ _ ovg (by omega) (by omega)).mono ?_
  rintro e w15 ⟨rfl, omvg, t15⟩
  have Avw := Avw.trans (t15.below (by omega) (by omega))
  have s15 := t15.size
  have B15 : Below w.heap.size w w15 := B14.trans (t15.below (by omega) (by omega))
  have ovg := omvg
  clear omvg
  go_wp2_with fail
  refine (heldInt64SS_any _ (rsR p q) _ _ ovg.fs (by omega) (by omega)).mono ?_
  rintro e w16 ⟨rfl, b16⟩
  have Avw := Avw.trans (b16.mono Avw.size)
  have ovg := ovg.below b16 (Nat.le_refl _)
  have s16 := b16.size
  have B16 : Below w.heap.size w w16 := B15.trans (b16.mono B15.size)
  go_wp2_with fail
  refine (toInt64S_any _ p _ (hvp.out.below B16 (Nat.le_refl _)) (by omega)).mono ?_
  rintro e w17 ⟨zp, rfl, ozp, b17⟩
  have Avw := Avw.trans (b17.mono Avw.size)
  have ovg := ovg.below b17 (Nat.le_refl _)
  have lzp := own_lt ozp
  have s17 := b17.size
  have B17 : Below w.heap.size w w17 := B16.trans (b17.mono B16.size)
  go_wp2_with fail
  refine (toInt64S_any _ q _ (hvq.out.below B17 (Nat.le_refl _)) (by omega)).mono ?_
  rintro e w18 ⟨zq, rfl, ozq, b18⟩
  have Avw := Avw.trans (b18.mono Avw.size)
  have ovg := ovg.below b18 (Nat.le_refl _)
  have ozp := own_below ozp b18 (Nat.le_refl _)
  have lzq := own_lt ozq
  have s18 := b18.size
  have B18 : Below w.heap.size w w18 := B17.trans (b18.mono B17.size)
  go_wp2_with fail
  refine (implResolventsOf_any _ _ p q _ (ints_of_own ozp) (ints_of_own ozq)).mono ?_
  rintro e w19 ⟨vh, rfl, ovh, b19⟩
  have Avw := Avw.trans (b19.mono Avw.size)
  have ovg := ovg.below b19 (Nat.le_refl _)
  have ozp := own_below ozp b19 (Nat.le_refl _)
  have ozq := own_below ozq b19 (Nat.le_refl _)
  have s19 := b19.size
  have B19 : Below w.heap.size w w19 := B18.trans (b19.mono B18.size)
  go_wp2_with fail
  refine (eqInt64SS_same _ _ (rsR p q) _ ovh.fs (fvw.below Avw (Nat.le_refl _))).mono ?_
  rintro e w20 ⟨rfl, b20⟩
  have Avw := Avw.trans (b20.mono Avw.size)
  have ovg := ovg.below b20 (Nat.le_refl _)
  have ovh := ovh.below b20 (Nat.le_refl _)
  have s20 := b20.size
  have B20 : Below w.heap.size w w20 := B19.trans (b20.mono B19.size)
  go_wp2_with fail
  refine (heldInt64SS_any _ (rsR p q) _ _ ovg.fs (by omega) (by omega)).mono ?_
  rintro e w21 ⟨rfl, b21⟩
  have Avw := Avw.trans (b21.mono Avw.size)
  have ovg := ovg.below b21 (Nat.le_refl _)
  have ovh := ovh.below b21 (Nat.le_refl _)
  have s21 := b21.size
  have B21 : Below w.heap.size w w21 := B20.trans (b21.mono B20.size)
  go_wp2_with fail
  go_ret
  exact ⟨rfl, B21⟩
end Go.Proofs.Ytggelkhfkhbgmaa
