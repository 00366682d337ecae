/- Walks of IsPlain and DepthsOf, of the program and of the reference. -/
import Derived.Test.YtkhbimdahjkgoaaParts
namespace Go.Proofs.Ytkhbimdahjkgoaa
open Go.RowKit

def modalB (k : Int) : Bool := decide (k = 5 ∨ k = 6)
def plainB (ns : List Nd) : Bool := ns.all fun n => !modalB n.1
def formCode (ns : List Nd) : Int := if formB ns then 0 else 1

theorem modal_cases (k : Int) : k = 5 ∨ k = 6 ∨ (k < 5 ∨ 6 < k) := by omega
theorem modal_yes {k : Int} (h : k = 5 ∨ k = 6) : modalB k = true := by simp [modalB, h]
theorem modal_no {k : Int} (h : k < 5 ∨ 6 < k) : modalB k = false := by simp [modalB]; omega




def isPlainR (ns : List Nd) : Bool := if formB ns then plainB ns else false



/-! Height and modal depth. -/
def depthH : Tr → Int
  | .nil => 0
  | .node _ _ n l r => if ar n.1 = 0 then 0 else if ar n.1 = 1 then depthH l + 1 else max (depthH l) (depthH r) + 1
def depthM : Tr → Int
  | .nil => 0
  | .node _ _ n l r => if ar n.1 = 0 then 0 else if ar n.1 = 1 then depthM l + 1 else max (depthM l) (depthM r)

theorem depth_bounds (t : Tr) : 0 ≤ depthH t ∧ depthH t ≤ (flat t).length ∧ 0 ≤ depthM t ∧ depthM t ≤ (flat t).length := by
  induction t with
  | nil => simp [depthH, depthM, flat]
  | node _ _ n l r ihl ihr =>
    simp only [depthH, depthM, flat, List.length_cons, List.length_append]
    split
    · omega
    · split <;> omega
end Go.Proofs.Ytkhbimdahjkgoaa
