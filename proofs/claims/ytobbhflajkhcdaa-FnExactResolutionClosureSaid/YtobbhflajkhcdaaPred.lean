/- What is asked of a function value that is handed to the library, and small facts on 'any' and 'all' of a list. -/
import Derived.Test.YtobbhflajkhcdaaKit
import Derived.Shelf.GgClosure.Gives
namespace Go.Proofs.Ytobbhflajkhcdaa
open Go.RowKit

/-- What is asked of a predicate: called in whatever world in which all that lay in w lies unturned, it answers p, and turns nothing. -/
def Pred {α : Type} (P : Program) (g : Nat) (lb : Array Value) (enc : α → Value) (xs : List α) (p : α → Bool) (w : World) : Prop :=
  ∀ W x, x ∈ xs → Below w.heap.size w W → w.heap.size ≤ W.heap.size → Calls P g (#[enc x] ++ lb) W fun e W' => e = .returned (.bool (p x)) ∧ Below W.heap.size W W'

theorem any_no {α : Type} {xs : List α} {p : α → Bool} (h : ∀ i x, i < xs.length → xs[i]? = some x → p x = false) : xs.any p = false := by
  rw [List.any_eq_false]
  intro x hx
  obtain ⟨i, hi, rfl⟩ := List.mem_iff_getElem.1 hx
  have := h i xs[i] hi (by simp [hi])
  rw [this]
  exact Bool.false_ne_true

theorem any_yes {α : Type} {xs : List α} {p : α → Bool} {k : Nat} {x : α} (hx : xs[k]? = some x) (h : p x = true) : xs.any p = true := by
  rw [List.any_eq_true]
  exact ⟨x, List.mem_of_getElem? hx, h⟩

theorem all_bad {α : Type} {xs : List α} {p : α → Bool} {k : Nat} {x : α} (hx : xs[k]? = some x) (h : p x = false) : xs.all p = false := by
  rw [List.all_eq_false]
  exact ⟨x, List.mem_of_getElem? hx, by simp [h]⟩

theorem all_good {α : Type} {xs : List α} {p : α → Bool} (h : ∀ i x, i < xs.length → xs[i]? = some x → p x = true) : xs.all p = true := by
  rw [List.all_eq_true]
  intro x hx
  obtain ⟨i, hi, rfl⟩ := List.mem_iff_getElem.1 hx
  exact h i _ hi (by simp)

theorem not_any {α : Type} (xs : List α) (p : α → Bool) : (!(xs.any fun x => !p x)) = xs.all p := by
  rw [List.not_any_eq_all_not]; simp

end Go.Proofs.Ytobbhflajkhcdaa
