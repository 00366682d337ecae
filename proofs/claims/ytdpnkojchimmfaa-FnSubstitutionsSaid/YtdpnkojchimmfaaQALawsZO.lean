/- The law FnSubstitutions' own walk (written by gensub.py). -/
import Derived.Test.YtdpnkojchimmfaaQABigM
import Derived.Test.YtdpnkojchimmfaaQAMatchFormM
import Derived.Test.YtdpnkojchimmfaaQASubLaw
import Derived.Test.YtdpnkojchimmfaaQADrawSub
import Derived.Test.YtdpnkojchimmfaaQASecond
import Derived.Test.YtdpnkojchimmfaaQAComposeTwo

namespace Go.Proofs.Ytdpnkojchimmfaa
open Go.RowKit
set_option linter.unusedVariables false

set_option maxHeartbeats 4000000 in
theorem w_FnSubstitutions (v : Value) (zs : List Int) (w : World) (hB : Bytes w v zs) :
    Calls Try.prog 4 #[v] w fun e w' => e = .returned (.bool true) ∧ Below w.heap.size w w' := by
  obtain ⟨hcap, a0, c0, bb0, o0, rfl, hc0, _, _⟩ := hB.opened
  unfold maxLen at hcap
  have hB := Lib.hid hB
  have hbig := Lib.hid (fun W => bigCode_any a0 zs.length c0 W hcap)
  by_cases hL : 4096 < zs.length
  · have hd := Lib.hid (show decide (4096 < zs.length) = true from decide_eq_true hL)
    go_enter Try.func4, Try.ntmps4
    go_wp2_with fail
    refine (hbig.out _).mono ?_
    rintro e w' ⟨rfl, rfl⟩
    rw [hd.out]
    go_wp2_with fail
    go_ret
    exact ⟨rfl, Below.refl _ _⟩
  have hd := Lib.hid (show decide (4096 < zs.length) = false from decide_eq_false hL)
  have hdraw := Lib.hid (drawSubstituteFormula_any (.slice a0 zs.length c0) zs w hB.out (by omega))
  go_enter Try.func4, Try.ntmps4
  go_wp2_with fail
  refine (hbig.out _).mono ?_
  rintro e w' ⟨rfl, rfl⟩
  rw [hd.out]
  go_wp2_with fail
  refine hdraw.out.mono ?_
  rintro e w1 ⟨⟨va, a, vi, Is, rfl, fva, fvi⟩, b1⟩
  have B0 := Lib.hid b1
  clear hd hbig hdraw hL hB hc0 hcap b1
  by_cases h0 : sbCode a Is = 0
  · obtain ⟨m1, m2, m3, m4, m5, m6, m7, m8⟩ := law_sub h0
    have hs1 := Lib.hid (fun (v u : Value) (W : World) (h : Nodes W v a) (hI : Fs W u Is) => subN_call (implSubstituteFormula_any v a u Is W h hI) h0 rfl)
    have hs2 := Lib.hid (fun (v u : Value) (W : World) (h : Nodes W v a) (hI : Fs W u Is) => subN_call (specSubstituteFormula_any v a u Is W h hI) h0 rfl)
    have hm := Lib.hid (fun (v u : Value) (W : World) (h : Nodes W v a) (hI : Nodes W u (sbR a Is)) => subS_call (implMatchFormula_any v a u _ W h hI) m1 rfl)
    have hs3 := Lib.hid (fun (v u : Value) (W : World) (h : Nodes W v a) (hI : Fs W u (mtR a (sbR a Is))) => subN_call (implSubstituteFormula_any v a u _ W h hI) m3 m4)
    have hcc := Lib.hid (fun (v u : Value) (W : World) (h : Fs W v Is) (hI : Fs W u secondL) => subS_call (implComposeSubstitutions_any v Is u secondL W h hI) m5 rfl)
    have hs4 := Lib.hid (fun (v u : Value) (W : World) (h : Nodes W v (sbR a Is)) (hI : Fs W u secondL) => subN_call (implSubstituteFormula_any v _ u secondL W h hI) m6 rfl)
    have hs5 := Lib.hid (fun (v u : Value) (W : World) (h : Nodes W v a) (hI : Fs W u (cpR Is secondL)) => subN_call (implSubstituteFormula_any v a u _ W h hI) m7 m8)
    have hsec := Lib.hid (fun W => second_fs W)
    generalize sbR (sbR a Is) secondL = L at *
    generalize cpR Is secondL = C at *
    generalize mtR a (sbR a Is) = M at *
    generalize sbR a Is = bR at *
    clear h0 m1 m3 m4 m5 m6 m7 m8
    have hsame := Lib.hid sameNodes9_same
    replace m2 := Lib.hid m2
    go_wp2_with fail
    refine (hs1.out va vi _ fva.out fvi.out).mono ?_
    rintro e w2 ⟨vb, rfl, fvb, b2⟩
    have fvb := Lib.hid fvb
    have B0 := Lib.hid (keep_step b2 B0.out)
    have B1 := Lib.hid b2
    go_wp2_with fail
    refine (hs2.out va vi _ (fva.out.below B1.out (Nat.le_refl _)) (fvi.out.below B1.out (Nat.le_refl _))).mono ?_
    rintro e w3 ⟨vr, rfl, fvr, b3⟩
    have fvr := Lib.hid fvr
    have B0 := Lib.hid (keep_step b3 B0.out)
    have B1 := Lib.hid (keep_step b3 B1.out)
    have B2 := Lib.hid b3
    go_wp2_with fail
    refine (hsame.out _ _ bR _ (fvb.out.below B2.out (Nat.le_refl _)) fvr.out).mono ?_
    rintro e w4 ⟨rfl, b4⟩
    have B0 := Lib.hid (keep_step b4 B0.out)
    have B1 := Lib.hid (keep_step b4 B1.out)
    have B2 := Lib.hid (keep_step b4 B2.out)
    have B3 := Lib.hid b4
    go_wp2_with fail
    refine (hm.out va vb _ (fva.out.below B1.out (Nat.le_refl _)) (fvb.out.below B2.out (Nat.le_refl _))).mono ?_
    rintro e w5 ⟨vm, rfl, fvm, b5⟩
    have fvm := Lib.hid fvm
    have B0 := Lib.hid (keep_step b5 B0.out)
    have B1 := Lib.hid (keep_step b5 B1.out)
    have B2 := Lib.hid (keep_step b5 B2.out)
    obtain ⟨a5, c5, hv5⟩ := fs_shape fvm.out
    rw [m2.out] at hv5
    subst hv5
    go_wp2_with fail
    refine (hs3.out va _ _ (fva.out.below B1.out (Nat.le_refl _)) fvm.out).mono ?_
    rintro e w6 ⟨vn, rfl, fvn, b6⟩
    have fvn := Lib.hid fvn
    have B0 := Lib.hid (keep_step b6 B0.out)
    have B1 := Lib.hid (keep_step b6 B1.out)
    have B2 := Lib.hid (keep_step b6 B2.out)
    have B5 := Lib.hid b6
    go_wp2_with fail
    obtain ⟨hF7, hB7⟩ := hsec.out w6
    have fvs := Lib.hid hF7
    have B0 := Lib.hid (keep_step hB7 B0.out)
    have B1 := Lib.hid (keep_step hB7 B1.out)
    have B2 := Lib.hid (keep_step hB7 B2.out)
    have B6 := Lib.hid hB7
    refine (hcc.out vi _ (six7 w6) (fvi.out.below B1.out (Nat.le_refl _)) fvs.out).mono ?_
    rintro e w8 ⟨vc, rfl, fvc, b8⟩
    have fvc := Lib.hid fvc
    have B0 := Lib.hid (keep_step b8 B0.out)
    have B1 := Lib.hid (keep_step b8 B1.out)
    have B2 := Lib.hid (keep_step b8 B2.out)
    have B6 := Lib.hid (keep_step b8 B6.out)
    have B7 := Lib.hid b8
    clear hF7 hB7
    go_wp2_with fail
    refine (hs4.out vb _ _ (fvb.out.below B2.out (Nat.le_refl _)) (fvs.out.below B7.out (Nat.le_refl _))).mono ?_
    rintro e w9 ⟨vl, rfl, fvl, b9⟩
    have fvl := Lib.hid fvl
    have B0 := Lib.hid (keep_step b9 B0.out)
    have B1 := Lib.hid (keep_step b9 B1.out)
    have B2 := Lib.hid (keep_step b9 B2.out)
    have B6 := Lib.hid (keep_step b9 B6.out)
    have B7 := Lib.hid (keep_step b9 B7.out)
    have B8 := Lib.hid b9
    go_wp2_with fail
    refine (hsame.out _ _ bR _ (fvn.out.below B6.out (Nat.le_refl _)) (fvb.out.below B2.out (Nat.le_refl _))).mono ?_
    rintro e w10 ⟨rfl, b10⟩
    have B0 := Lib.hid (keep_step b10 B0.out)
    have B1 := Lib.hid (keep_step b10 B1.out)
    have B2 := Lib.hid (keep_step b10 B2.out)
    have B6 := Lib.hid (keep_step b10 B6.out)
    have B7 := Lib.hid (keep_step b10 B7.out)
    have B8 := Lib.hid (keep_step b10 B8.out)
    have B9 := Lib.hid b10
    go_wp2_with fail
    refine (hs5.out va vc _ (fva.out.below B1.out (Nat.le_refl _)) (fvc.out.below B8.out (Nat.le_refl _))).mono ?_
    rintro e w11 ⟨vz, rfl, fvz, b11⟩
    have fvz := Lib.hid fvz
    have B0 := Lib.hid (keep_step b11 B0.out)
    have B1 := Lib.hid (keep_step b11 B1.out)
    have B2 := Lib.hid (keep_step b11 B2.out)
    have B6 := Lib.hid (keep_step b11 B6.out)
    have B7 := Lib.hid (keep_step b11 B7.out)
    have B8 := Lib.hid (keep_step b11 B8.out)
    have B9 := Lib.hid (keep_step b11 B9.out)
    go_wp2_with fail
    refine (hsame.out _ _ L _ fvz.out (fvl.out.below B9.out (Nat.le_refl _))).mono ?_
    rintro e w12 ⟨rfl, b12⟩
    have B0 := Lib.hid (keep_step b12 B0.out)
    have B1 := Lib.hid (keep_step b12 B1.out)
    have B2 := Lib.hid (keep_step b12 B2.out)
    have B6 := Lib.hid (keep_step b12 B6.out)
    have B7 := Lib.hid (keep_step b12 B7.out)
    have B8 := Lib.hid (keep_step b12 B8.out)
    have B9 := Lib.hid (keep_step b12 B9.out)
    have B11 := Lib.hid b12
    go_wp2_with fail
    go_ret
    exact ⟨rfl, B0.out⟩
  · have e0 : (sbCode a Is != 0) = true := by rw [bne_iff_ne]; exact h0
    have hs1 := Lib.hid (fun (v u : Value) (W : World) (h : Nodes W v a) (hI : Fs W u Is) => subN_call (implSubstituteFormula_any v a u Is W h hI) rfl rfl)
    have hs2 := Lib.hid (fun (v u : Value) (W : World) (h : Nodes W v a) (hI : Fs W u Is) => subN_call (specSubstituteFormula_any v a u Is W h hI) rfl rfl)
    have hsame := Lib.hid sameNodes9_same
    generalize sbR a Is = bR at *
    clear h0
    generalize sbCode a Is = C at *
    go_wp2_with fail
    refine (hs1.out va vi _ fva.out fvi.out).mono ?_
    rintro e w2 ⟨vb, rfl, fvb, b2⟩
    have fvb := Lib.hid fvb
    have B0 := Lib.hid (keep_step b2 B0.out)
    have B1 := Lib.hid b2
    go_wp2_with fail
    refine (hs2.out va vi _ (fva.out.below B1.out (Nat.le_refl _)) (fvi.out.below B1.out (Nat.le_refl _))).mono ?_
    rintro e w3 ⟨vr, rfl, fvr, b3⟩
    have fvr := Lib.hid fvr
    have B0 := Lib.hid (keep_step b3 B0.out)
    have B1 := Lib.hid (keep_step b3 B1.out)
    have B2 := Lib.hid b3
    go_wp2_with fail
    refine (hsame.out _ _ bR _ (fvb.out.below B2.out (Nat.le_refl _)) fvr.out).mono ?_
    rintro e w4 ⟨rfl, b4⟩
    have B0 := Lib.hid (keep_step b4 B0.out)
    have B1 := Lib.hid (keep_step b4 B1.out)
    have B2 := Lib.hid (keep_step b4 B2.out)
    have B3 := Lib.hid b4
    go_wp2_with fail
    go_ret
    exact ⟨rfl, B0.out⟩
end Go.Proofs.Ytdpnkojchimmfaa
