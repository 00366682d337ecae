/- impl.areClauses. -/
import Derived.Test.YtobbhflajkhcdaaFbMath
namespace Go.Proofs.Ytobbhflajkhcdaa
open Go.RowKit
set_option linter.unusedVariables false

theorem all_clauses : ∀ ss : List SlI, (ss.map (·.2)).all clauseB = !(ss.any fun s => !clauseB s.2)
  | [] => rfl
  | s :: ss => by
    have ih := all_clauses ss
    simp only [List.map_cons, List.all_cons, List.any_cons, ih]
    cases clauseB s.2 <;> simp
theorem areClauses1_pred (ss : List SlI) (w : World) (h : ∀ s ∈ ss, Ints w (slVI s) s.2) : Pred Try.prog 32 #[] slVI ss (fun s => !clauseB s.2) w := by
  intro W s hs hb _
  have hcl := Lib.hid (isClause_any (slVI s) s.2 W ((h s hs).below hb (Nat.le_refl _)))
  show Calls Try.prog 32 #[slVI s] W _
  generalize slVI s = v at *
  go_enter Try.func32, Try.ntmps32
  go_wp2_with (go_at_call 33; refine hcl.out.mono ?_; rintro e w' ⟨rfl, rfl⟩)
  go_ret
  exact ⟨rfl, Below.refl _ _⟩
theorem areClauses_any (v : Value) (Is : List (List Int)) (w : World) (h : Fi w v Is) :
    Calls Try.prog 16 #[v] w fun e w' => e = .returned (.bool (Is.all clauseB)) ∧ Below w.heap.size w w' := by
  obtain ⟨ss, h1, h2, rfl⟩ := h
  have heg := Lib.hid (enters_of Try.func32 (by kernel_rfl) rfl)
  have hp := Lib.hid (areClauses1_pred ss w h2)
  have he := Lib.hid (all_clauses ss)
  have h1 := Lib.hid h1
  clear h2
  go_enter Try.func16, Try.ntmps16
  go_wp2_with fail
  refine (containsFuncSI_any _ _ heg.out _ ss _ _ h1.out hp.out).mono ?_
  rintro e w' ⟨rfl, hb⟩
  go_wp2_with fail
  go_ret
  exact ⟨by rw [he.out]; rfl, hb⟩
end Go.Proofs.Ytobbhflajkhcdaa
