/- Whether a list is a substitution; SubstituteFormula of both. -/
import Derived.Test.YtfedipeabbaccaaReplTwo
namespace Go.Proofs.Ytfedipeabbaccaa
open Go.RowKit

def subsB (Is : List (List Nd)) : Bool := decide (Is.length = 6) && Is.all formB

theorem Fs.cells {w : World} {v : Value} {Is : List (List Nd)} (h : Fs w v Is) : ∃ a c b o, v = .slice a Is.length c ∧ Is.length ≤ c ∧ Is.length ≤ maxLen ∧ (0 < Is.length → a = some ⟨b, o, none⟩) ∧ Hid (∀ j : Nat, j < Is.length → ∃ vI I, Is[j]? = some I ∧ w.cell? ⟨b, o + j, none⟩ = some vI ∧ Nodes w vI I) := by
  obtain ⟨ss, h1, h2, h3⟩ := h
  have hl : ss.length = Is.length := by have := congrArg List.length h3; simpa using this
  obtain ⟨_, hm, a, c, b, o, rfl, hc, ha, hcell⟩ := h1
  rw [hl] at hc hm ha ⊢
  refine ⟨a, c, b, o, rfl, hc, hm, ha, fun j hj => ?_⟩
  have hjs : j < ss.length := by omega
  obtain ⟨s, hs⟩ : ∃ s, ss[j]? = some s := ⟨_, List.getElem?_eq_getElem hjs⟩
  refine ⟨slV s, s.2, by rw [← h3, List.getElem?_map, hs]; rfl, ?_, h2 s (List.mem_of_getElem? hs)⟩
  exact hcell j _ (by rw [List.getElem?_map, hs]; rfl)

theorem subs_bad {Is : List (List Nd)} {k : Nat} {I : List Nd} (h : Is[k]? = some I) (hf : formB I = false) : subsB Is = false := by
  have : Is.all formB = false := by
    rw [Bool.eq_false_iff]; intro ha
    have := List.all_eq_true.1 ha I (List.mem_of_getElem? h)
    rw [hf] at this; cases this
  unfold subsB; rw [this, Bool.and_false]
theorem subs_good {Is : List (List Nd)} (h : ∀ (j : Nat) (I : List Nd), Is[j]? = some I → formB I = true) : subsB Is = decide (Is.length = 6) := by
  have : Is.all formB = true := by
    rw [List.all_eq_true]; intro I hI
    obtain ⟨j, hj⟩ := List.getElem?_of_mem hI
    exact h j I hj
  unfold subsB; rw [this, Bool.and_true]


end Go.Proofs.Ytfedipeabbaccaa
