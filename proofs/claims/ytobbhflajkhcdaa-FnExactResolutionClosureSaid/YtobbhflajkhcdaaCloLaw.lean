/- The contracts of ResolutionClosure in the words of the law's walk. -/
import Derived.Test.YtobbhflajkhcdaaCloSpec
namespace Go.Proofs.Ytobbhflajkhcdaa
open Go.RowKit
set_option linter.unusedVariables false

theorem cloR_ex (Is : List (List Int)) : ∃ R, isCloR Is R := by
  unfold isCloR
  split
  · rename_i h
    exact clo_ex (all_memC h)
  · exact ⟨[], rfl⟩
theorem cloR_tot {Is R : List (List Int)} (h : isCloR Is R) : totI R ≤ 49152 := by
  unfold isCloR at h
  split at h
  · rename_i hall
    have h1 := isClo_len (all_memC hall) h
    have h2 := totI_le (n := 12) (Is := R) (fun x hx => clause_len (isClo_clause (all_memC hall) h hx))
    omega
  · subst h
    simp [totI]
theorem specResolutionClosure_any (v : Value) (Is : List (List Int)) (w : World) (h : Fi w v Is) (R : List (List Int)) (hR : isCloR Is R) (hn : Is.length ≤ 1048576) (hl : ∀ I ∈ Is, I.length ≤ 1048576) :
    Calls Try.prog 5 #[v] w fun e w' => ∃ v', e = .returned (.tuple #[v', .int .i64 (cloCode Is)]) ∧ Fi w' v' R ∧ Below w.heap.size w w' := specClosure_any v Is R w h hn hl hR
theorem implResolutionClosure_any (v : Value) (Is : List (List Int)) (w : World) (h : Fi w v Is) (R : List (List Int)) (hR : isCloR Is R) (hn : Is.length ≤ 1048576) (hl : ∀ I ∈ Is, I.length ≤ 1048576) :
    Calls Try.prog 7 #[v] w fun e w' => ∃ v', e = .returned (.tuple #[v', .int .i64 (cloCode Is)]) ∧ OwnII w.heap.size w'.heap.size w' v' R ∧ Below w.heap.size w w' := implClosure_any v Is R w h hn hl hR
end Go.Proofs.Ytobbhflajkhcdaa
