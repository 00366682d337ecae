/- UnifyFormulas: the reference's whole walk. -/
import Derived.Test.YtdpnkojchimmfaaQBUnifSpec
import Derived.Test.YtdpnkojchimmfaaQBBigM
import Derived.Test.YtdpnkojchimmfaaQBMatchFormM
import Derived.Test.YtdpnkojchimmfaaQBSubLaw
import Derived.Test.YtdpnkojchimmfaaQBTextInj
import Derived.Test.YtdpnkojchimmfaaQBDrawTwoM
import Derived.Test.YtdpnkojchimmfaaQBDrawUniTwo
import Derived.Test.YtdpnkojchimmfaaQBUnifFour
import Derived.Test.YtdpnkojchimmfaaQBComposeTwo

namespace Go.Proofs.Ytdpnkojchimmfaa
open Go.RowKit Go.Deep

set_option maxHeartbeats 1000000 in
theorem specUnifyFormulas_any (v : Value) (a : List Nd) (u : Value) (b : List Nd) (w : World) (h : Nodes w v a) (hu : Nodes w u b) :
    Calls Try.prog 7 #[v, u] w fun e w' => ∃ v', e = .returned (.tuple #[v', .int .i64 (uniCode a b)]) ∧ Fs w' v' (uniR a b) ∧ Below w.heap.size w w' := by
  have hia := Lib.hid (l02Is_any v a w h)
  have hib := Lib.hid (l02Is_any u b w hu)
  have hM := Lib.hid (fun hf hg => l03Unify_any v a u b w h hu hf hg)
  clear h hu
  cases hA : formB a
  · obtain ⟨h3, h2⟩ := uni_no (show form2 a b = false by unfold form2; rw [hA]; rfl)
    have h2 := Lib.hid h2
    have h3 := Lib.hid h3
    have hf := Lib.hid hA
    clear hA
    go_enter Try.func7, Try.ntmps7
    go_wp2_with fail
    refine hia.out.mono ?_
    rintro e w1 ⟨rfl, rfl⟩
    rw [hf.out]
    go_wp2_with fail
    go_ret2
    exact ⟨_, by rw [h2.out]; rfl, by rw [h3.out]; exact (OwnSS.nil _ 0).fs, Below.refl _ _⟩
  · cases hB : formB b
    · obtain ⟨h3, h2⟩ := uni_no (show form2 a b = false by unfold form2; rw [hA, hB]; rfl)
      have h2 := Lib.hid h2
      have h3 := Lib.hid h3
      have hf := Lib.hid hA
      have hg := Lib.hid hB
      clear hA hB
      go_enter Try.func7, Try.ntmps7
      go_wp2_with fail
      refine hia.out.mono ?_
      rintro e w1 ⟨rfl, rfl⟩
      rw [hf.out]
      go_wp2_with fail
      refine hib.out.mono ?_
      rintro e w1 ⟨rfl, rfl⟩
      rw [hg.out]
      go_wp2_with fail
      go_ret2
      exact ⟨_, by rw [h2.out]; rfl, by rw [h3.out]; exact (OwnSS.nil _ 0).fs, Below.refl _ _⟩
    · have hM := Lib.hid (hM.out hA hB)
      have hf := Lib.hid hA
      have hg := Lib.hid hB
      clear hA hB
      generalize uniCode a b = cd at *
      generalize uniR a b = rs at *
      go_enter Try.func7, Try.ntmps7
      go_wp2_with fail
      refine hia.out.mono ?_
      rintro e w1 ⟨rfl, rfl⟩
      rw [hf.out]
      go_wp2_with fail
      refine hib.out.mono ?_
      rintro e w1 ⟨rfl, rfl⟩
      rw [hg.out]
      go_wp2_with fail
      refine hM.out.mono ?_
      rintro e w2 ⟨v', rfl, ho, b2⟩
      go_wp2_with fail
      go_ret2
      exact ⟨_, rfl, ho.out, b2⟩
end Go.Proofs.Ytdpnkojchimmfaa

/- The law FnUnifiers' own walk (written by gensub.py). -/
namespace Go.Proofs.Ytdpnkojchimmfaa
open Go.RowKit
set_option linter.unusedVariables false

set_option maxHeartbeats 4000000 in
theorem w_FnUnifiers (v : Value) (zs : List Int) (w : World) (hB : Bytes w v zs) :
    Calls Try.prog 5 #[v] w fun e w' => e = .returned (.bool true) ∧ Below w.heap.size w w' := by
  obtain ⟨hcap, a0, c0, bb0, o0, rfl, hc0, _, _⟩ := hB.opened
  unfold maxLen at hcap
  have hB := Lib.hid hB
  have hbig := Lib.hid (fun W => bigCode_any a0 zs.length c0 W hcap)
  by_cases hL : 4096 < zs.length
  · have hd := Lib.hid (show decide (4096 < zs.length) = true from decide_eq_true hL)
    go_enter Try.func5, Try.ntmps5
    go_wp2_with fail
    refine (hbig.out _).mono ?_
    rintro e w' ⟨rfl, rfl⟩
    rw [hd.out]
    go_wp2_with fail
    go_ret
    exact ⟨rfl, Below.refl _ _⟩
  have hd := Lib.hid (show decide (4096 < zs.length) = false from decide_eq_false hL)
  have hdraw := Lib.hid (drawUnifyFormulas_any (.slice a0 zs.length c0) zs w hB.out (by omega))
  go_enter Try.func5, Try.ntmps5
  go_wp2_with fail
  refine (hbig.out _).mono ?_
  rintro e w' ⟨rfl, rfl⟩
  rw [hd.out]
  go_wp2_with fail
  refine hdraw.out.mono ?_
  rintro e w1 ⟨⟨va, a, vb, b, rfl, fva, fvb⟩, b1⟩
  have B0 := Lib.hid b1
  clear hd hbig hdraw hL hB hc0 hcap b1
  have hsame := Lib.hid sameNodes9_same
  have hlist := Lib.hid sameList9_same
  have hu1 := Lib.hid (fun (v u : Value) (W : World) (h : Nodes W v a) (hI : Nodes W u b) => subS_call (implUnifyFormulas_any v a u b W h hI) rfl rfl)
  have hu2 := Lib.hid (fun (v u : Value) (W : World) (h : Nodes W v a) (hI : Nodes W u b) => subF_call (specUnifyFormulas_any v a u b W h hI) rfl rfl)
  by_cases h4 : uniCode a b = 4
  · obtain ⟨hf, hne⟩ := law_not h4
    have hcmp := Lib.hid (fun (v u : Value) (W : World) (h : Nodes W v a) (hI : Nodes W u b) => cmp_call (implCompareFormulas_any v a u b W h hI) hf)
    obtain hcz := cmp_ne hf hne
    rw [h4] at hu1 hu2
    generalize cmpR a b = Z at *
    generalize uniR a b = R at *
    have e0 : (Z != 0) = true := by rw [bne_iff_ne]; exact hcz
    clear h4 hf hne hcz
    go_wp2_with fail
    refine (hu1.out va vb _ fva.out fvb.out).mono ?_
    rintro e w2 ⟨vi, rfl, fvi, b2⟩
    have fvi := Lib.hid fvi
    have B0 := Lib.hid (keep_step b2 B0.out)
    have B1 := Lib.hid b2
    go_wp2_with fail
    refine (hu2.out va vb _ (fva.out.below B1.out (Nat.le_refl _)) (fvb.out.below B1.out (Nat.le_refl _))).mono ?_
    rintro e w3 ⟨vr, rfl, fvr, b3⟩
    have fvr := Lib.hid fvr
    have B0 := Lib.hid (keep_step b3 B0.out)
    have B1 := Lib.hid (keep_step b3 B1.out)
    have B2 := Lib.hid b3
    go_wp2_with fail
    refine (hlist.out _ _ R _ (fvi.out.below B2.out (Nat.le_refl _)) fvr.out).mono ?_
    rintro e w4 ⟨rfl, b4⟩
    have B0 := Lib.hid (keep_step b4 B0.out)
    have B1 := Lib.hid (keep_step b4 B1.out)
    have B2 := Lib.hid (keep_step b4 B2.out)
    have B3 := Lib.hid b4
    go_wp2_with fail
    refine (hcmp.out va vb _ (fva.out.below B1.out (Nat.le_refl _)) (fvb.out.below B1.out (Nat.le_refl _))).mono ?_
    rintro e w5 ⟨rfl, b5⟩
    have B0 := Lib.hid (keep_step b5 B0.out)
    have B1 := Lib.hid (keep_step b5 B1.out)
    have B2 := Lib.hid (keep_step b5 B2.out)
    go_wp2_with fail
    go_ret
    exact ⟨rfl, B0.out⟩
  by_cases h0 : uniCode a b = 0
  · obtain ⟨m1, m2, m3, m4, m5⟩ := law_uni h0
    rw [h0] at hu1 hu2
    have hs1 := Lib.hid (fun (v u : Value) (W : World) (h : Nodes W v a) (hI : Fs W u (uniR a b)) => subN_call (implSubstituteFormula_any v a u _ W h hI) m1 rfl)
    have hs2 := Lib.hid (fun (v u : Value) (W : World) (h : Nodes W v b) (hI : Fs W u (uniR a b)) => subN_call (implSubstituteFormula_any v b u _ W h hI) m2 m3.symm)
    have hcc := Lib.hid (fun (v u : Value) (W : World) (h : Fs W v (uniR a b)) (hI : Fs W u (uniR a b)) => subS_call (implComposeSubstitutions_any v _ u _ W h hI) rfl rfl)
    have hm := Lib.hid (fun (v u : Value) (W : World) (h : Nodes W v a) (hI : Nodes W u b) => subS_call (implMatchFormula_any v a u b W h hI) rfl rfl)
    replace m4 := Lib.hid m4
    replace m5 := Lib.hid m5
    generalize sbR a (uniR a b) = S at *
    generalize cpR (uniR a b) (uniR a b) = D at *
    generalize cpCode (uniR a b) (uniR a b) = DC at *
    generalize mtR a b = M at *
    generalize mtCode a b = MC at *
    generalize uniR a b = R at *
    clear h4 h0 m1 m2 m3
    go_wp2_with fail
    refine (hu1.out va vb _ fva.out fvb.out).mono ?_
    rintro e w2 ⟨vi, rfl, fvi, b2⟩
    have fvi := Lib.hid fvi
    have B0 := Lib.hid (keep_step b2 B0.out)
    have B1 := Lib.hid b2
    go_wp2_with fail
    refine (hu2.out va vb _ (fva.out.below B1.out (Nat.le_refl _)) (fvb.out.below B1.out (Nat.le_refl _))).mono ?_
    rintro e w3 ⟨vr, rfl, fvr, b3⟩
    have fvr := Lib.hid fvr
    have B0 := Lib.hid (keep_step b3 B0.out)
    have B1 := Lib.hid (keep_step b3 B1.out)
    have B2 := Lib.hid b3
    go_wp2_with fail
    refine (hlist.out _ _ R _ (fvi.out.below B2.out (Nat.le_refl _)) fvr.out).mono ?_
    rintro e w4 ⟨rfl, b4⟩
    have B0 := Lib.hid (keep_step b4 B0.out)
    have B1 := Lib.hid (keep_step b4 B1.out)
    have B2 := Lib.hid (keep_step b4 B2.out)
    have B3 := Lib.hid b4
    go_wp2_with fail
    refine (hs1.out va vi _ (fva.out.below B1.out (Nat.le_refl _)) (fvi.out.below B2.out (Nat.le_refl _))).mono ?_
    rintro e w5 ⟨vx, rfl, fvx, b5⟩
    have fvx := Lib.hid fvx
    have B0 := Lib.hid (keep_step b5 B0.out)
    have B1 := Lib.hid (keep_step b5 B1.out)
    have B2 := Lib.hid (keep_step b5 B2.out)
    go_wp2_with fail
    refine (hs2.out vb vi _ (fvb.out.below B1.out (Nat.le_refl _)) (fvi.out.below B2.out (Nat.le_refl _))).mono ?_
    rintro e w6 ⟨vy, rfl, fvy, b6⟩
    have fvy := Lib.hid fvy
    have B0 := Lib.hid (keep_step b6 B0.out)
    have B1 := Lib.hid (keep_step b6 B1.out)
    have B2 := Lib.hid (keep_step b6 B2.out)
    have B5 := Lib.hid b6
    go_wp2_with fail
    refine (hsame.out _ _ S _ (fvx.out.below B5.out (Nat.le_refl _)) fvy.out).mono ?_
    rintro e w7 ⟨rfl, b7⟩
    have B0 := Lib.hid (keep_step b7 B0.out)
    have B1 := Lib.hid (keep_step b7 B1.out)
    have B2 := Lib.hid (keep_step b7 B2.out)
    have B5 := Lib.hid (keep_step b7 B5.out)
    have B6 := Lib.hid b7
    go_wp2_with fail
    refine (hcc.out vi vi _ (fvi.out.below B2.out (Nat.le_refl _)) (fvi.out.below B2.out (Nat.le_refl _))).mono ?_
    rintro e w8 ⟨vd, rfl, fvd, b8⟩
    have fvd := Lib.hid fvd
    have B0 := Lib.hid (keep_step b8 B0.out)
    have B1 := Lib.hid (keep_step b8 B1.out)
    have B2 := Lib.hid (keep_step b8 B2.out)
    by_cases hDC : DC = 0
    · obtain rfl : D = R := m4.out hDC
      subst hDC
      go_wp2_with fail
      refine (hlist.out _ _ D _ fvd.out (fvi.out.below B2.out (Nat.le_refl _))).mono ?_
      rintro e w9 ⟨rfl, b9⟩
      have B0 := Lib.hid (keep_step b9 B0.out)
      have B1 := Lib.hid (keep_step b9 B1.out)
      have B2 := Lib.hid (keep_step b9 B2.out)
      have B8 := Lib.hid b9
      go_wp2_with fail
      refine (hm.out va vb _ (fva.out.below B1.out (Nat.le_refl _)) (fvb.out.below B1.out (Nat.le_refl _))).mono ?_
      rintro e w10 ⟨vm, rfl, fvm, b10⟩
      have fvm := Lib.hid fvm
      have B0 := Lib.hid (keep_step b10 B0.out)
      have B1 := Lib.hid (keep_step b10 B1.out)
      have B2 := Lib.hid (keep_step b10 B2.out)
      have B8 := Lib.hid (keep_step b10 B8.out)
      rcases m5.out with h5 | h5
      · subst h5
        go_wp2_with fail
        go_ret
        exact ⟨rfl, B0.out⟩
      · subst h5
        go_wp2_with fail
        go_ret
        exact ⟨rfl, B0.out⟩
    · have eD : (DC == 0) = false := by rw [beq_eq_false_iff_ne]; exact hDC
      clear hDC
      go_wp2_with fail
      refine (hm.out va vb _ (fva.out.below B1.out (Nat.le_refl _)) (fvb.out.below B1.out (Nat.le_refl _))).mono ?_
      rintro e w9 ⟨vm, rfl, fvm, b9⟩
      have fvm := Lib.hid fvm
      have B0 := Lib.hid (keep_step b9 B0.out)
      have B1 := Lib.hid (keep_step b9 B1.out)
      have B2 := Lib.hid (keep_step b9 B2.out)
      have B8 := Lib.hid b9
      rcases m5.out with h5 | h5
      · subst h5
        go_wp2_with fail
        go_ret
        exact ⟨rfl, B0.out⟩
      · subst h5
        go_wp2_with fail
        go_ret
        exact ⟨rfl, B0.out⟩
  · have e4 : (uniCode a b == 4) = false := by rw [beq_eq_false_iff_ne]; exact h4
    have e0 : (uniCode a b != 0) = true := by rw [bne_iff_ne]; exact h0
    generalize uniR a b = R at *
    clear h0 h4
    generalize uniCode a b = C at *
    go_wp2_with fail
    refine (hu1.out va vb _ fva.out fvb.out).mono ?_
    rintro e w2 ⟨vi, rfl, fvi, b2⟩
    have fvi := Lib.hid fvi
    have B0 := Lib.hid (keep_step b2 B0.out)
    have B1 := Lib.hid b2
    go_wp2_with fail
    refine (hu2.out va vb _ (fva.out.below B1.out (Nat.le_refl _)) (fvb.out.below B1.out (Nat.le_refl _))).mono ?_
    rintro e w3 ⟨vr, rfl, fvr, b3⟩
    have fvr := Lib.hid fvr
    have B0 := Lib.hid (keep_step b3 B0.out)
    have B1 := Lib.hid (keep_step b3 B1.out)
    have B2 := Lib.hid b3
    go_wp2_with fail
    refine (hlist.out _ _ R _ (fvi.out.below B2.out (Nat.le_refl _)) fvr.out).mono ?_
    rintro e w4 ⟨rfl, b4⟩
    have B0 := Lib.hid (keep_step b4 B0.out)
    have B1 := Lib.hid (keep_step b4 B1.out)
    have B2 := Lib.hid (keep_step b4 B2.out)
    have B3 := Lib.hid b4
    go_wp2_with fail
    go_ret
    exact ⟨rfl, B0.out⟩
end Go.Proofs.Ytdpnkojchimmfaa
