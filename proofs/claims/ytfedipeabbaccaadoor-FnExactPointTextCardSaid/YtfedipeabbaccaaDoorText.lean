/- Walks of the text of a formula, of the program and of the reference. -/
import Derived.Test.YtfedipeabbaccaaDoorTextMath
import Derived.Test.YtfedipeabbaccaaDoorJoinTwo
import Derived.Test.YtfedipeabbaccaaDoorEq
import Derived.WalkLawsBesides
import Derived.IntWalk
namespace Go.Proofs.YtfedipeabbaccaaDoor
open Go.RowKit Go.Deep

/-- What a tree's slice shows of its first node. -/
theorem tree_head {w : World} {v : Value} {b0 o0 : Nat} {x y : Int} {l r : Tr} (h : Nodes w v (flat (.node b0 o0 (x, y) l r))) : ∃ c b o m, v = .slice (some ⟨b, o, none⟩) m c ∧ 0 < m ∧ m ≤ c ∧ m = (flat (.node b0 o0 (x, y) l r)).length ∧ w.cell? ⟨b, o, none⟩ = some (.int .i64 x) ∧ w.cell? ⟨b, o + 1, none⟩ = some (.int .i64 y) := by
  have hp : 0 < (flat (.node b0 o0 (x, y) l r)).length := by simp [flat]
  obtain ⟨c, b, o, rfl, hc, hcm, hcell⟩ := h.raw hp
  obtain ⟨hc0, hc1⟩ := node_head hcell.out
  exact ⟨c, b, o, _, rfl, hp, hc, rfl, hc0, hc1⟩

theorem ret_str {a b : ByteArray} (h : a = b) : Ending.returned (.string a) = .returned (.string b) := by rw [h]





end Go.Proofs.YtfedipeabbaccaaDoor
