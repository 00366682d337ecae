/- slices.CompactFunc at a row of lists of integers, with slices.Equal. -/
import Derived.Test.YtobbhflajkhcdaaSortII
import Derived.Test.YtobbhflajkhcdaaFbEq
import Derived.Test.YtobbhflajkhcdaaResList
import Derived.Lib.SliceRun
import Derived.Lib.SlicesCompact
namespace Go.Proofs.Ytobbhflajkhcdaa
open Go.RowKit Go.Sort Go.Lib
set_option linter.unusedVariables false
set_option linter.unusedSimpArgs false

/-- A row cut short. -/
theorem own_cut {w : World} {B : Nat} {e : TypeId} {g n cap k : Nat} {xs : List Value} (h : w.ownsRow B e 1 (.slice (some ⟨g, 0, none⟩) n cap) n xs) (hk : k ≤ n) : w.ownsRow B e 1 (.slice (some ⟨g, 0, none⟩) k cap) k (xs.take k) := by
  have hl := h.1
  rcases h.2 with ⟨h0, _⟩ | ⟨g', cap', cur, hv, hB, hg, hn, hm, hs, ht⟩
  · cases h0
  · cases hv
    refine ⟨by rw [List.length_take]; omega, .inr ⟨_, _, cur, rfl, hB, hg, by omega, hm, hs, ?_⟩⟩
    rw [← ht, List.take_take]
    congr 1
    omega
theorem own_setCells : ∀ (vs : List Value) {w : World} {B : Nat} {e : TypeId} {g n cap j k : Nat} {xs : List Value}, w.ownsRow B e 1 (.slice (some ⟨g, 0, none⟩) n cap) n xs → k ≤ j → ∃ ys, (w.setCells g j vs).ownsRow B e 1 (.slice (some ⟨g, 0, none⟩) n cap) n ys ∧ ys.take k = xs.take k
  | [], w, B, e, g, n, cap, j, k, xs, h, _ => ⟨xs, h, rfl⟩
  | v :: vs, w, B, e, g, n, cap, j, k, xs, h, hk => by
    obtain ⟨ys, h1, h2⟩ := own_setCells vs (h.stored j v).1 (show k ≤ j + 1 by omega)
    refine ⟨ys, h1, ?_⟩
    rw [h2]
    apply List.ext_getElem?
    intro i
    rw [List.getElem?_take, List.getElem?_take]
    split
    · rw [List.getElem?_set_ne (by omega)]
    · rfl
theorem grown_setCells : ∀ (vs : List Value) (w : World) (g j : Nat), w.grownBy (w.setCells g j vs) (some g)
  | [], w, g, j => World.grownBy.refl _ _
  | v :: vs, w, g, j => (grown_setI w g j v).trans (grown_setCells vs _ g (j + 1))
theorem grown_of_below {w w' : World} {row : Option Nat} (h : Below w.heap.size w w') : w.grownBy w' row := ⟨h.os, h.tape, h.output, h.size, fun k hk _ => h.block k hk⟩

/-- What is kept of the first m elements of a row of lists. -/
def keptS (ss : List SlI) : Nat → List SlI
  | 0 => []
  | m + 1 => keptS ss m ++ (if keeps (ss.map (·.2)).toArray m then (ss[m]?).toList else [])
theorem keptS_succ (ss : List SlI) (m : Nat) : keptS ss (m + 1) = keptS ss m ++ (if keeps (ss.map (·.2)).toArray m then (ss[m]?).toList else []) := rfl
theorem keptS_vals (ss : List SlI) : ∀ m, m ≤ ss.length → (keptS ss m).map (·.2) = compactUpTo (ss.map (·.2)).toArray m
  | 0, _ => by simp [keptS, compactUpTo]
  | m + 1, h => by
    have hget : ss[m]? = some ss[m] := List.getElem?_eq_getElem (by omega)
    rw [compactUpTo_succ, ← keptS_vals ss m (by omega), keptS_succ, List.map_append]
    congr 1
    split
    · rw [hget]
      simp [show m < ss.length by omega]
    · rfl
theorem keptS_sub (ss : List SlI) : ∀ m, (keptS ss m).Sublist (ss.take m)
  | 0 => List.nil_sublist _
  | m + 1 => by
    have ih := keptS_sub ss m
    rw [List.take_add_one, keptS_succ]
    split
    · exact ih.append (List.Sublist.refl _)
    · exact ih.append (List.nil_sublist _)
theorem keptS_all {ss : List SlI} : ∀ {m : Nat}, m ≤ ss.length → (∀ j, j < m → keeps (ss.map (·.2)).toArray j = true) → keptS ss m = ss.take m
  | 0, _, _ => rfl
  | m + 1, h, hk => by
    rw [keptS_succ, keptS_all (m := m) (by omega) (fun j hj => hk j (by omega)), hk m (by omega), if_pos rfl, List.take_add_one]
theorem keeps_vals {ss : List SlI} {m : Nat} {s t : SlI} (hs : ss[m + 1]? = some s) (ht : ss[m]? = some t) : keeps (ss.map (·.2)).toArray (m + 1) = !decide (s.2 = t.2) := by
  have h1 : (ss.map (·.2)).toArray[m + 1]! = s.2 := by simp [hs]
  have h2 : (ss.map (·.2)).toArray[m + 1 - 1]! = t.2 := by simp [ht]
  by_cases e : s.2 = t.2
  · rw [keeps_neg (by omega) (by rw [h1, h2, e])]
    simp [e]
  · rw [keeps_pos (by rw [h1, h2]; exact e)]
    simp [e]
theorem keptS_strict {ss : List SlI} (h : (ss.map (·.2)).Pairwise (fun a b => ¬ ltI b a)) : ((keptS ss ss.length).map (·.2)).Pairwise ltI ∧ ∀ x, x ∈ (keptS ss ss.length).map (·.2) ↔ x ∈ ss.map (·.2) := by
  have := compact_strict lo_lists (ss.map (·.2)) h
  rw [keptS_vals ss ss.length (Nat.le_refl _)]
  unfold compact at this
  rw [List.length_map] at this
  exact this
end Go.Proofs.Ytobbhflajkhcdaa
