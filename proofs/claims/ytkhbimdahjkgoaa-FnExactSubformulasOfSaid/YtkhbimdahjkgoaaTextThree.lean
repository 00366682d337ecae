/- Walks of FormulaText, of the program and of the reference. -/
import Derived.Test.YtkhbimdahjkgoaaTextTwo
namespace Go.Proofs.Ytkhbimdahjkgoaa
open Go.RowKit Go.Deep

theorem l02Text_any (t : Tr) (v : Value) (w : World) (ht : okT t) (hg : goodT t) (h : Nodes w v (flat t)) (hn : (flat t).length ≤ 1000) :
    Calls Try.prog 22 #[v] w fun e w' => e = .returned (.string (txtB t)) ∧ Below w.heap.size w w' := by
  have hc := Lib.hid (l02Write_any t v w 0 ht hg h hn)
  have h0 := Lib.hid (txt_zero t)
  go_enter Try.func22, Try.ntmps22
  go_wp2_with fail
  refine hc.out.mono ?_
  rintro e w1 ⟨rfl, b1⟩
  rw [h0.out]
  go_wp2_with fail
  go_ret
  exact ⟨rfl, b1⟩

def formText (ns : List Nd) : ByteArray := if formB ns then txtB (treeOf ns) else ByteArray.mk #[]


end Go.Proofs.Ytkhbimdahjkgoaa
