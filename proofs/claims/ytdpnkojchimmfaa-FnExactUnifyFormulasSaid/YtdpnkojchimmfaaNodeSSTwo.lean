/- Lists of formulas as arguments of the laws: the copy. -/
import Derived.Test.YtdpnkojchimmfaaNodeSS
namespace Go.Proofs.Ytdpnkojchimmfaa
open Go.RowKit

def nilSl : Sl := ((none, 0, 0), [])
theorem made_slices (n : Nat) : (madeCells (Value.slice none 0 0).cells (n * 1)).toList = (List.replicate n nilSl).map slV := by
  have : (Value.slice none 0 0).cells = #[.slice none 0 0] := rfl
  rw [this, Nat.mul_one, toList_madeCells_one]
  simp [nilSl, slV]
theorem set_next {α : Type} (ss : List α) (x d : α) (n : Nat) (h : ss.length < n) : (ss ++ List.replicate (n - ss.length) d).set ss.length x = (ss ++ [x]) ++ List.replicate (n - (ss.length + 1)) d := by
  rw [List.set_append_right _ _ (Nat.le_refl _), Nat.sub_self]
  have : n - ss.length = (n - (ss.length + 1)) + 1 := by omega
  rw [this, List.replicate_succ]
  simp

end Go.Proofs.Ytdpnkojchimmfaa
