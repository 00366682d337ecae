/- Walks of OccurrencesOf, of the program and of the reference. -/
import Derived.Test.YtkhbimdahjkgoaaEq
import Derived.Test.YtkhbimdahjkgoaaLists
import Derived.Test.YtkhbimdahjkgoaaMembers
namespace Go.Proofs.Ytkhbimdahjkgoaa
open Go.RowKit

theorem skip_mid (ns : List Nd) (op : Nat) (h : skip ns op = some []) (i : Nat) (hi : i < ns.length) : ∃ r, skip (ns.drop i) 1 = some r := by
  induction ns generalizing op i with
  | nil => simp at hi
  | cons n l ih =>
    cases op with
    | zero => rw [skip_zero] at h; cases h
    | succ op =>
      cases i with
      | zero =>
        rw [show op + 1 = 1 + op by omega, skip_add] at h
        cases hh : skip (n :: l) 1 with
        | none => rw [hh] at h; cases h
        | some r => exact ⟨r, by simpa using hh⟩
      | succ i =>
        rw [skip_cons] at h
        exact ih _ h i (by simpa using hi)

/-- In a formula a part begins at each node. -/
theorem part_in {ns : List Nd} (h : formB ns = true) {i : Nat} (hi : i < ns.length) : ∃ m, 0 < m ∧ i + m ≤ ns.length ∧ partEndL ns i = ((i + m : Nat) : Int) := by
  simp only [formB, Bool.and_eq_true, decide_eq_true_eq] at h
  obtain ⟨r, hr⟩ := skip_mid ns 1 h.2 i hi
  obtain ⟨p, hp, hl⟩ := skip_suffix _ _ _ hr
  have hlen : ns.length - i = p.length + r.length := by rw [← List.length_drop, hp, List.length_append]
  refine ⟨p.length, by omega, by omega, ?_⟩
  unfold partEndL
  rw [hr]
  show (ns.length : Int) - (r.length : Nat) = _
  omega

/-- The part at a node. -/
def partL (ns : List Nd) (i : Nat) : List Nd := (ns.drop i).take (partEndL ns i - i).toNat
theorem partL_eq {ns : List Nd} {i m : Nat} (he : partEndL ns i = ((i + m : Nat) : Int)) : (ns.drop i).take m = partL ns i := by
  unfold partL
  rw [he]
  congr 1
  omega

def occUpto (ns bs : List Nd) (k : Nat) : List Int := ((List.range k).filter fun i => decide (partL ns i = bs)).map fun i => ((i : Nat) : Int)
theorem occ_yes {ns bs : List Nd} {k : Nat} (h : decide (partL ns k = bs) = true) : occUpto ns bs (k + 1) = occUpto ns bs k ++ [(k : Int)] := by
  unfold occUpto
  rw [List.range_succ, List.filter_append, List.map_append]
  congr 1
  simp only [List.filter, h, List.map]
theorem occ_no {ns bs : List Nd} {k : Nat} (h : decide (partL ns k = bs) = false) : occUpto ns bs (k + 1) = occUpto ns bs k := by
  unfold occUpto
  rw [List.range_succ, List.filter_append, List.map_append]
  simp only [List.filter, h, List.map, List.append_nil]
theorem occ_length (ns bs : List Nd) (k : Nat) : (occUpto ns bs k).length ≤ k := by
  unfold occUpto
  rw [List.length_map]
  exact Nat.le_trans (List.length_filter_le _ _) (by simp)

def form2 (ns bs : List Nd) : Bool := formB ns && formB bs
def form2Code (ns bs : List Nd) : Int := if form2 ns bs then 0 else 1
def occR (ns bs : List Nd) : List Int := if form2 ns bs then occUpto ns bs ns.length else []
theorem occR_length (ns bs : List Nd) : (occR ns bs).length ≤ 64 := by
  unfold occR
  split
  · rename_i h
    have := occ_length ns bs ns.length
    simp only [form2, formB, Bool.and_eq_true, decide_eq_true_eq] at h
    omega
  · simp


end Go.Proofs.Ytkhbimdahjkgoaa
