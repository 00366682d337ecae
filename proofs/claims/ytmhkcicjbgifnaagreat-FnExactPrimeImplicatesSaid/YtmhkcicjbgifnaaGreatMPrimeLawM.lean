/- spec.PrimeImplicates, spec.PrimeImplicants. -/
import Derived.Test.YtmhkcicjbgifnaaGreatMPrimeSp
import Derived.Test.YtmhkcicjbgifnaaGreatMMapVM
import Derived.Test.YtmhkcicjbgifnaaGreatMPrimes

namespace Go.Proofs.YtmhkcicjbgifnaaGreat
open Go.RowKit Go.Deep
set_option linter.unusedVariables false
set_option linter.unusedSimpArgs false

/-- What the answer is: the prime terms, or the prime clauses, of a plain formula; nothing otherwise. -/
def isPrimeR (imp : Bool) (ns : List Nd) (R : List (List Int)) : Prop := (codeP [ns] = 0 → isAns (goodB imp (valT (treeOf ns))) R) ∧ (codeP [ns] ≠ 0 → R = [])
theorem primeR_ex (imp : Bool) (ns : List Nd) : ∃ R, isPrimeR imp ns R := by
  by_cases h : codeP [ns] = 0
  · obtain ⟨R, hR⟩ := ans_ex (goodB imp (valT (treeOf ns)))
    exact ⟨R, fun _ => hR, fun h2 => absurd h h2⟩
  · exact ⟨[], fun h2 => absurd h2 h, fun _ => rfl⟩
theorem primeR_cl {imp : Bool} {ns : List Nd} {R : List (List Int)} (h : isPrimeR imp ns R) : R.length ≤ 4096 ∧ ∀ x ∈ R, clauseB x = true := by
  by_cases h0 : codeP [ns] = 0
  · exact ⟨isAns_len (h.1 h0), fun x hx => (((h.1 h0).2 x).1 hx).1⟩
  · rw [h.2 h0]
    exact ⟨by simp, fun x hx => absurd hx List.not_mem_nil⟩
theorem primeR_tot {imp : Bool} {ns : List Nd} {R : List (List Int)} (h : isPrimeR imp ns R) : totI R ≤ 49152 := by
  have h1 := primeR_cl h
  have h2 := totI_le (Is := R) (n := 12) fun I hI => clause_len (h1.2 I hI)
  omega
set_option maxHeartbeats 1600000 in
theorem specPrimeImplicates_any (v : Value) (ns : List Nd) (w : World) (h : Nodes w v ns) (R : List (List Int)) (hR : isPrimeR false ns R) :
    Calls Tryz.prog 6 #[v] w fun e w' => ∃ v', e = .returned (.tuple #[v', .int .i64 (codeP [ns])]) ∧ Fi w' v' R ∧ Below w.heap.size w w' := by
  obtain ⟨a, c, rfl⟩ := h.shape
  have hv := Lib.hid h
  have hcode := Lib.hid (fun t => l04Code_one w a _ c ns t h)
  clear h
  generalize ns.length = n at *
  by_cases h0 : codeP [ns] = 0
  · obtain ⟨hf, hp⟩ := codeP_one h0
    obtain ⟨h1, h2, h3, h4⟩ := plain_tree hf hp
    have htab := Lib.hid (fun w1 (hb : Below w.heap.size w w1) => l04Table_any (treeOf ns) _ w1 h1 h3 (by rw [h2]; exact hv.out.below hb (Nat.le_refl _)) (by rw [h2]; omega))
    have hR := Lib.hid (hR.1 h0)
    have hc := Lib.hid h0
    clear h0 hf hp h1 h2 h3 h4
    generalize valT (treeOf ns) = p at *
    go_enter Tryz.func6, Tryz.ntmps6
    go_wp2_with fail
    refine (hcode.out _).mono ?_
    rintro e w1 ⟨rfl, b1⟩
    rw [hc.out]
    go_wp2_with fail
    refine (htab.out _ b1).mono ?_
    rintro e w2 ⟨v2, rfl, ho2, b2⟩
    have b12 := Lib.hid (keep_step b2 b1)
    go_wp2_with fail
    refine (l04Prime_any false p R hR.out v2 w2 (bools_of_own ho2)).mono ?_
    rintro e w3 ⟨v3, rfl, hf3, b3⟩
    have b13 := Lib.hid (keep_step b3 b12.out)
    have hf3 := Lib.hid hf3
    clear ho2 b1 b2 b3
    go_wp2_with fail
    go_ret2
    exact ⟨_, by rw [hc.out]; rfl, hf3.out.fi, b13.out⟩
  · have hr := Lib.hid (hR.2 h0)
    have hne := codeP_ne h0
    clear h0
    go_enter Tryz.func6, Tryz.ntmps6
    go_wp2_with fail
    refine (hcode.out _).mono ?_
    rintro e w1 ⟨rfl, b1⟩
    go_wp2_with fail
    go_ret2
    exact ⟨_, rfl, by rw [hr.out]; exact (OwnII.nil w1 0).fs, b1⟩
set_option maxHeartbeats 1600000 in
theorem specPrimeImplicants_any (v : Value) (ns : List Nd) (w : World) (h : Nodes w v ns) (R : List (List Int)) (hR : isPrimeR true ns R) :
    Calls Tryz.prog 14 #[v] w fun e w' => ∃ v', e = .returned (.tuple #[v', .int .i64 (codeP [ns])]) ∧ Fi w' v' R ∧ Below w.heap.size w w' := by
  obtain ⟨a, c, rfl⟩ := h.shape
  have hv := Lib.hid h
  have hcode := Lib.hid (fun t => l04Code_one w a _ c ns t h)
  clear h
  generalize ns.length = n at *
  by_cases h0 : codeP [ns] = 0
  · obtain ⟨hf, hp⟩ := codeP_one h0
    obtain ⟨h1, h2, h3, h4⟩ := plain_tree hf hp
    have htab := Lib.hid (fun w1 (hb : Below w.heap.size w w1) => l04Table_any (treeOf ns) _ w1 h1 h3 (by rw [h2]; exact hv.out.below hb (Nat.le_refl _)) (by rw [h2]; omega))
    have hR := Lib.hid (hR.1 h0)
    have hc := Lib.hid h0
    clear h0 hf hp h1 h2 h3 h4
    generalize valT (treeOf ns) = p at *
    go_enter Tryz.func14, Tryz.ntmps14
    go_wp2_with fail
    refine (hcode.out _).mono ?_
    rintro e w1 ⟨rfl, b1⟩
    rw [hc.out]
    go_wp2_with fail
    refine (htab.out _ b1).mono ?_
    rintro e w2 ⟨v2, rfl, ho2, b2⟩
    have b12 := Lib.hid (keep_step b2 b1)
    go_wp2_with fail
    refine (l04Prime_any true p R hR.out v2 w2 (bools_of_own ho2)).mono ?_
    rintro e w3 ⟨v3, rfl, hf3, b3⟩
    have b13 := Lib.hid (keep_step b3 b12.out)
    have hf3 := Lib.hid hf3
    clear ho2 b1 b2 b3
    go_wp2_with fail
    go_ret2
    exact ⟨_, by rw [hc.out]; rfl, hf3.out.fi, b13.out⟩
  · have hr := Lib.hid (hR.2 h0)
    have hne := codeP_ne h0
    clear h0
    go_enter Tryz.func14, Tryz.ntmps14
    go_wp2_with fail
    refine (hcode.out _).mono ?_
    rintro e w1 ⟨rfl, b1⟩
    go_wp2_with fail
    go_ret2
    exact ⟨_, rfl, by rw [hr.out]; exact (OwnII.nil w1 0).fs, b1⟩
end Go.Proofs.YtmhkcicjbgifnaaGreat

/- impl.PrimeImplicants, impl.PrimeImplicates. -/
namespace Go.Proofs.YtmhkcicjbgifnaaGreat
open Go.RowKit Go.Deep
set_option linter.unusedVariables false
set_option linter.unusedSimpArgs false

set_option maxHeartbeats 1600000 in
theorem implPrimeImplicants_any (v : Value) (ns : List Nd) (w : World) (h : Nodes w v ns) (R : List (List Int)) (hR : isPrimeR true ns R) :
    Calls Tryz.prog 15 #[v] w fun e w' => ∃ v', e = .returned (.tuple #[v', .int .i64 (codeP [ns])]) ∧ OwnII w.heap.size w'.heap.size w' v' R ∧ Below w.heap.size w w' := by
  obtain ⟨a, c, rfl⟩ := h.shape
  have hv := Lib.hid h
  have hcode := Lib.hid (fun t => plainCode_one w a _ c ns t h)
  clear h
  generalize ns.length = n at *
  by_cases h0 : codeP [ns] = 0
  · obtain ⟨hf, hp⟩ := codeP_one h0
    obtain ⟨h1, h2, h3, h4⟩ := plain_tree hf hp
    have hmod := Lib.hid (show ∀ w1 (hb : Below w.heap.size w w1), Calls Tryz.prog 22 #[.slice a n c] w1 fun e w' => e = .returned (.int .u64 (rowsOf (valT (treeOf ns)) 64 : Nat)) ∧ w1 = w' from fun w1 hb => modelsOf_any (treeOf ns) _ w1 h1 h3 (by rw [h2]; exact hv.out.below hb (Nat.le_refl _)) (by rw [h2]; omega))
    have hR := Lib.hid (hR.1 h0)
    have hc := Lib.hid h0
    clear h0 hf hp h1 h2 h3 h4
    generalize valT (treeOf ns) = p at *
    have hpr := Lib.hid (fun w => primes_any p R (by rw [← goodB_imp]; exact hR.out) w)
    generalize ((rowsOf p 64 : Nat) : Int) = S at *
    go_enter Tryz.func15, Tryz.ntmps15
    go_wp2_with fail
    refine (hcode.out _).mono ?_
    rintro e w1 ⟨rfl, b1⟩
    rw [hc.out]
    go_wp2_with fail
    refine (hmod.out _ b1).mono ?_
    rintro e w2 ⟨rfl, rfl⟩
    go_wp2_with fail
    refine (hpr.out _).mono ?_
    rintro e w3 ⟨v3, ss, rfl, hg3, hs3, b3⟩
    have b13 := Lib.hid (keep_step b3 b1)
    have hg3 := Lib.hid hg3
    have hs1 := b1.size
    clear b1 b3
    go_wp2_with fail
    go_ret2
    exact ⟨_, by rw [hc.out]; rfl, by rw [← hs3.out]; exact hg3.out.ownII.mono hs1, b13.out⟩
  · have hr := Lib.hid (hR.2 h0)
    have hne := codeP_ne h0
    clear h0
    go_enter Tryz.func15, Tryz.ntmps15
    go_wp2_with fail
    refine (hcode.out _).mono ?_
    rintro e w1 ⟨rfl, b1⟩
    go_wp2_with fail
    go_ret2
    exact ⟨_, rfl, by rw [hr.out]; exact OwnII.nil w1 _, b1⟩
end Go.Proofs.YtmhkcicjbgifnaaGreat
