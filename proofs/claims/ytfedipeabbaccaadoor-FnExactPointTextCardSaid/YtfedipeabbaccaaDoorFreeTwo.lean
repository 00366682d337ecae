/- FreePoints: the recursion, of both. -/
import Derived.Test.YtfedipeabbaccaaDoorFree
namespace Go.Proofs.YtfedipeabbaccaaDoor
open Go.RowKit Go.Deep

theorem pow_fact {y : Int} (h : inR y 0 9 = true) : 0 ≤ y ∧ y ≤ 9 ∧ 1 ≤ (2 : Int) ^ y.toNat ∧ (2 : Int) ^ y.toNat ≤ 512 := by
  obtain ⟨h0, h1⟩ := inR_iff.1 h
  have hp := pow_bounds y 9 (by omega)
  rw [show (2 : Int) ^ 9 = 512 by decide] at hp
  omega
theorem leaf_kinds {x : Int} (h : inR x 0 8 = true) (h1 : arP x = 0) : (x = 0 ∨ x = 1) ∨ x = 2 ∨ x = 3 := by
  have h0 := inR_iff.1 h
  unfold arP at h1
  split at h1
  · cases h1
  · split at h1
    · cases h1
    · omega

end Go.Proofs.YtfedipeabbaccaaDoor
