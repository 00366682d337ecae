/- Walks of IsTautology, of the program and of the reference. -/
import Derived.Test.YtngaadpmmlabmaaClassTwo
namespace Go.Proofs.Ytngaadpmmlabmaa
open Go.RowKit Go.Deep

def tautR (ns : List Nd) : Bool := if codeP [ns] = 0 then (List.range 64).all (valT (treeOf ns)) else false
theorem taut_first (t : Tr) : decide (firstI (valT t) false < 0) = (List.range 64).all (valT t) := by
  rw [Bool.eq_iff_iff, decide_eq_true_eq, firstI_neg, List.all_eq_true]
  constructor
  · intro h i hi
    have := h i (by simpa using hi)
    simpa using this
  · intro h i hi
    have := h i (by simpa using hi)
    rw [this]; rfl
theorem taut_rows (t : Tr) : (rowsT t == 18446744073709551615) = (List.range 64).all (valT t) := by
  rw [Bool.eq_iff_iff, beq_iff_eq, ← rows_all]
  unfold rowsT
  omega

theorem implIsTautology_any (v : Value) (ns : List Nd) (w : World) (h : Nodes w v ns) :
    Calls Try.prog 13 #[v] w fun e w' => e = .returned (.tuple #[.bool (tautR ns), .int .i64 (codeP [ns])]) ∧ Below w.heap.size w w' := by
  obtain ⟨a, c, rfl⟩ := h.shape
  have hv := Lib.hid h
  have hcode := Lib.hid (fun t => plainCode_one w a _ c ns t h)
  clear h
  generalize ns.length = n at *
  by_cases h0 : codeP [ns] = 0
  · obtain ⟨hf, hp⟩ := codeP_one h0
    obtain ⟨h1, h2, h3, h4⟩ := plain_tree hf hp
    have hmod := Lib.hid (fun w1 (hb : Below w.heap.size w w1) => modelsOf_any (treeOf ns) _ w1 h1 h3 (by rw [h2]; exact hv.out.below hb (Nat.le_refl _)) (by rw [h2]; omega))
    have hr := Lib.hid (show tautR ns = (rowsT (treeOf ns) == 18446744073709551615) by rw [taut_rows]; simp [tautR, h0])
    have hc := Lib.hid h0
    clear h0 hf hp h1 h2 h3 h4
    generalize hM : rowsT (treeOf ns) = M at *
    clear hM
    go_enter Try.func13, Try.ntmps13
    go_wp2_with fail
    refine (hcode.out _).mono ?_
    rintro e w1 ⟨rfl, b1⟩
    rw [hc.out]
    go_wp2_with fail
    refine (hmod.out _ b1).mono ?_
    rintro e w2 ⟨rfl, rfl⟩
    go_wp2_with fail
    go_ret2
    exact ⟨by rw [hr.out, hc.out]; rfl, b1⟩
  · have hr := Lib.hid (show tautR ns = false by simp [tautR, h0])
    have hne := codeP_ne h0
    clear h0
    go_enter Try.func13, Try.ntmps13
    go_wp2_with fail
    refine (hcode.out _).mono ?_
    rintro e w1 ⟨rfl, b1⟩
    go_wp2_with fail
    go_ret2
    exact ⟨by rw [hr.out]; rfl, b1⟩

theorem specIsTautology_any (v : Value) (ns : List Nd) (w : World) (h : Nodes w v ns) :
    Calls Try.prog 11 #[v] w fun e w' => e = .returned (.tuple #[.bool (tautR ns), .int .i64 (codeP [ns])]) ∧ Below w.heap.size w w' := by
  obtain ⟨a, c, rfl⟩ := h.shape
  have hv := Lib.hid h
  have hcode := Lib.hid (fun t => l04Code_one w a _ c ns t h)
  clear h
  generalize ns.length = n at *
  by_cases h0 : codeP [ns] = 0
  · obtain ⟨hf, hp⟩ := codeP_one h0
    obtain ⟨h1, h2, h3, h4⟩ := plain_tree hf hp
    have htab := Lib.hid (fun w1 (hb : Below w.heap.size w w1) => l04Table_any (treeOf ns) _ w1 h1 h3 (by rw [h2]; exact hv.out.below hb (Nat.le_refl _)) (by rw [h2]; omega))
    have hr := Lib.hid (show tautR ns = decide (firstI (valT (treeOf ns)) false < 0) by rw [taut_first]; simp [tautR, h0])
    have hfst := Lib.hid (l04First_any (valT (treeOf ns)) false)
    have hc := Lib.hid h0
    clear h0 hf hp h1 h2 h3 h4
    generalize valT (treeOf ns) = p at *
    go_enter Try.func11, Try.ntmps11
    go_wp2_with fail
    refine (hcode.out _).mono ?_
    rintro e w1 ⟨rfl, b1⟩
    rw [hc.out]
    go_wp2_with fail
    refine (htab.out _ b1).mono ?_
    rintro e w2 ⟨v2, rfl, ho, b2⟩
    have ho := Lib.hid ho
    go_wp2_with fail
    refine (hfst.out _ _ (bools_of_own ho.out)).mono ?_
    rintro e w' ⟨rfl, rfl⟩
    go_wp2_with fail
    go_ret2
    exact ⟨by rw [hr.out, hc.out]; rfl, b1.trans (b2.mono b1.size)⟩
  · have hr := Lib.hid (show tautR ns = false by simp [tautR, h0])
    have hne := codeP_ne h0
    clear h0
    go_enter Try.func11, Try.ntmps11
    go_wp2_with fail
    refine (hcode.out _).mono ?_
    rintro e w1 ⟨rfl, b1⟩
    go_wp2_with fail
    go_ret2
    exact ⟨by rw [hr.out]; rfl, b1⟩
end Go.Proofs.Ytngaadpmmlabmaa
