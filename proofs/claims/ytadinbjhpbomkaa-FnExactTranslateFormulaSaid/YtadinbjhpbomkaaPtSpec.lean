/- Point formulas: what is one, of the reference. -/
import Derived.Test.YtadinbjhpbomkaaPtForm
namespace Go.Proofs.Ytadinbjhpbomkaa
open Go.RowKit Go.Deep

def partsP (x : Int) : Int := if inR x 0 8 then (arP x : Nat) else -1
def nodeP (n : Pt) : Bool := if n.1 = 0 ∨ n.1 = 1 then inR n.2.1 0 9 && inR n.2.2 0 9 else if n.1 = 2 then inR n.2.1 0 5 && inR n.2.2 0 9 else if n.1 = 7 ∨ n.1 = 8 then inR n.2.1 0 9 && decide (n.2.2 = 0) else decide (n.2.1 = 0) && decide (n.2.2 = 0)
theorem ptB_spec (n : Pt) : ptB n = (inR n.1 0 8 && nodeP n) := by
  obtain ⟨x, y, z⟩ := n
  unfold ptB nodeP
  rcases pt_cases x with (rfl | rfl) | rfl | (rfl | rfl) | h
  · simp [inR]
  · simp [inR]
  · simp [inR]
  · simp [inR]
  · simp [inR]
  · rw [if_neg (by show ¬ (x = 0 ∨ x = 1); omega), if_neg (by show ¬ (x = 2); omega), if_neg (by show ¬ (x = 7 ∨ x = 8); omega), if_neg (by show ¬ (x = 0 ∨ x = 1); omega), if_neg (by show ¬ (x = 2); omega), if_neg (by show ¬ (x = 7 ∨ x = 8); omega)]
    have : inR x 3 6 = inR x 0 8 := by
      rw [Bool.eq_iff_iff, inR_iff, inR_iff]; omega
    show (inR x 3 6 && _ && _) = _
    rw [this, Bool.and_assoc]
theorem nodeP_sees {x y z : Int} (h : x = 0 ∨ x = 1) : nodeP (x, y, z) = (inR y 0 9 && inR z 0 9) := by simp [nodeP, h]
theorem nodeP_val {y z : Int} : nodeP (2, y, z) = (inR y 0 5 && inR z 0 9) := by simp [nodeP]
theorem nodeP_quant {x y z : Int} (h : x = 7 ∨ x = 8) : nodeP (x, y, z) = (inR y 0 9 && decide (z = 0)) := by
  unfold nodeP
  rw [if_neg (by show ¬ (x = 0 ∨ x = 1); omega), if_neg (by show ¬ (x = 2); omega), if_pos h]
theorem nodeP_else {x y z : Int} (h : ¬ (x = 0 ∨ x = 1 ∨ x = 2 ∨ x = 7 ∨ x = 8)) : nodeP (x, y, z) = (decide (y = 0) && decide (z = 0)) := by
  unfold nodeP
  rw [if_neg (by show ¬ (x = 0 ∨ x = 1); omega), if_neg (by show ¬ (x = 2); omega), if_neg (by show ¬ (x = 7 ∨ x = 8); omega)]
theorem parts_cases (k : Int) : k = 0 ∨ k = 1 ∨ k = 2 ∨ k = 3 ∨ k = 4 ∨ k = 5 ∨ k = 6 ∨ k = 7 ∨ k = 8 ∨ (k < 0 ∨ 8 < k) := by omega



theorem pEnd_end {ns : List Pt} {i : Nat} (h : ns.length ≤ i) : pEnd ns i = -1 := partEnd_none (i := i) (j := i) (op := 1) rfl (by rw [List.length_map]; exact h) (by omega)
theorem pEnd_leaf {ns : List Pt} {i : Nat} {x y z : Int} (hx : ns[i]? = some (x, y, z)) (h : arP x = 0) : pEnd ns i = ((i + 1 : Nat) : Int) := by
  have h1 := skipP_next (op := 0) hx
  rw [h] at h1
  exact partEnd_some h1 (by rw [List.length_map]; exact (List.getElem?_eq_some_iff.1 hx).1)
theorem pEnd_un {ns : List Pt} {i : Nat} {x y z : Int} (hx : ns[i]? = some (x, y, z)) (h : arP x = 1) : pEnd ns i = pEnd ns (i + 1) := by
  have h1 := skipP_next (op := 0) hx
  rw [h] at h1
  unfold pEnd partEndL
  rw [h1]
theorem pEnd_bin {ns : List Pt} {i : Nat} {x y z : Int} (hx : ns[i]? = some (x, y, z)) (h : arP x = 2) : (pEnd ns (i + 1) = -1 ∧ pEnd ns i = -1) ∨ ∃ j : Nat, i + 1 < j ∧ j ≤ ns.length ∧ pEnd ns (i + 1) = (j : Nat) ∧ pEnd ns i = pEnd ns j := by
  have h1 := skipP_next (op := 0) hx
  rw [h, show 0 + 2 = 1 + 1 from rfl, skip_add ((ns.map mp).drop (i + 1)) 1 1] at h1
  cases hs : skip ((ns.map mp).drop (i + 1)) 1 with
  | none =>
    left
    rw [hs] at h1
    unfold pEnd partEndL
    rw [hs, h1]
    exact ⟨rfl, rfl⟩
  | some r =>
    right
    rw [hs] at h1
    obtain ⟨p, hp, hpl⟩ := skip_suffix _ _ _ hs
    have hl := congrArg List.length hp
    rw [List.length_drop, List.length_append, List.length_map] at hl
    have hi : i < ns.length := (List.getElem?_eq_some_iff.1 hx).1
    have hdrop : (ns.map mp).drop (i + 1 + p.length) = r := by rw [← List.drop_drop, hp, List.drop_left]
    refine ⟨i + 1 + p.length, by omega, by omega, ?_, ?_⟩
    · unfold pEnd partEndL
      rw [hs]
      simp only [List.length_map]
      omega
    · unfold pEnd partEndL
      rw [h1, hdrop]
      rfl


end Go.Proofs.Ytadinbjhpbomkaa
