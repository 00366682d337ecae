/- Walks of FormulaText, of the program and of the reference. -/
import Derived.Test.YtngaadpmmlabmaaTextTwo
namespace Go.Proofs.Ytngaadpmmlabmaa
open Go.RowKit Go.Deep

theorem l02Text_any (t : Tr) (v : Value) (w : World) (ht : okT t) (hg : goodT t) (h : Nodes w v (flat t)) (hn : (flat t).length ≤ 1000) :
    Calls Try.prog 42 #[v] w fun e w' => e = .returned (.string (txtB t)) ∧ Below w.heap.size w w' := by
  have hc := Lib.hid (l02Write_any t v w 0 ht hg h hn)
  have h0 := Lib.hid (txt_zero t)
  go_enter Try.func42, Try.ntmps42
  go_wp2_with fail
  refine hc.out.mono ?_
  rintro e w1 ⟨rfl, b1⟩
  rw [h0.out]
  go_wp2_with fail
  go_ret
  exact ⟨rfl, b1⟩

def formText (ns : List Nd) : ByteArray := if formB ns then txtB (treeOf ns) else ByteArray.mk #[]

theorem implFormulaText_any (v : Value) (ns : List Nd) (w : World) (h : Nodes w v ns) :
    Calls Try.prog 16 #[v] w fun e w' => e = .returned (.tuple #[.string (formText ns), .int .i64 (formCode ns)]) ∧ Below w.heap.size w w' := by
  have hv := Lib.hid h
  clear h
  cases hB : formB ns
  · have hf := Lib.hid (show formText ns = ByteArray.mk #[] ∧ formCode ns = 1 by simp [formText, formCode, hB])
    have hBh := Lib.hid hB
    clear hB
    go_enter Try.func16, Try.ntmps16
    go_wp2_with fail
    refine (isFormula_any _ ns _ hv.out).mono ?_
    rintro e w1 ⟨rfl, b1⟩
    rw [hBh.out]
    go_wp2_with fail
    go_ret2
    exact ⟨by rw [hf.out.1, hf.out.2]; rfl, b1⟩
  · have hf := Lib.hid (show formText ns = txtB (treeOf ns) ∧ formCode ns = 0 by simp [formText, formCode, hB])
    obtain ⟨k1, k2, k3, k4⟩ := good_tree hB
    have hte := Lib.hid (fun w1 (hb : Below w.heap.size w w1) => text_any (treeOf ns) v w1 k1 k3 (by rw [k2]; exact hv.out.below hb (Nat.le_refl _)) (by rw [k2]; omega))
    have hBh := Lib.hid hB
    clear hB k1 k2 k3 k4
    generalize txtB (treeOf ns) = S at *
    go_enter Try.func16, Try.ntmps16
    go_wp2_with fail
    refine (isFormula_any _ ns _ hv.out).mono ?_
    rintro e w1 ⟨rfl, b1⟩
    rw [hBh.out]
    go_wp2_with fail
    refine (hte.out _ b1).mono ?_
    rintro e w2 ⟨rfl, b2⟩
    go_wp2_with fail
    go_ret2
    exact ⟨by rw [hf.out.1, hf.out.2]; rfl, b1.trans (b2.mono b1.size)⟩

theorem specFormulaText_any (v : Value) (ns : List Nd) (w : World) (h : Nodes w v ns) :
    Calls Try.prog 15 #[v] w fun e w' => e = .returned (.tuple #[.string (formText ns), .int .i64 (formCode ns)]) ∧ Below w.heap.size w w' := by
  have hv := Lib.hid h
  clear h
  cases hB : formB ns
  · have hf := Lib.hid (show formText ns = ByteArray.mk #[] ∧ formCode ns = 1 by simp [formText, formCode, hB])
    have hBh := Lib.hid hB
    clear hB
    go_enter Try.func15, Try.ntmps15
    go_wp2_with fail
    refine (l02Is_any _ ns _ hv.out).mono ?_
    rintro e w1 ⟨rfl, rfl⟩
    rw [hBh.out]
    go_wp2_with fail
    go_ret2
    exact ⟨by rw [hf.out.1, hf.out.2]; rfl, Below.refl _ _⟩
  · have hf := Lib.hid (show formText ns = txtB (treeOf ns) ∧ formCode ns = 0 by simp [formText, formCode, hB])
    obtain ⟨k1, k2, k3, k4⟩ := good_tree hB
    have hte := Lib.hid (l02Text_any (treeOf ns) v w k1 k3 (by rw [k2]; exact hv.out) (by rw [k2]; omega))
    have hBh := Lib.hid hB
    clear hB k1 k2 k3 k4
    generalize txtB (treeOf ns) = S at *
    go_enter Try.func15, Try.ntmps15
    go_wp2_with fail
    refine (l02Is_any _ ns _ hv.out).mono ?_
    rintro e w1 ⟨rfl, rfl⟩
    rw [hBh.out]
    go_wp2_with fail
    refine hte.out.mono ?_
    rintro e w2 ⟨rfl, b2⟩
    go_wp2_with fail
    go_ret2
    exact ⟨by rw [hf.out.1, hf.out.2]; rfl, b2⟩
end Go.Proofs.Ytngaadpmmlabmaa
