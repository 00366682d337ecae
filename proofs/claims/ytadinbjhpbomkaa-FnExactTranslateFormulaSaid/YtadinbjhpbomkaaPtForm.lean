/- Point formulas: what is one, of both. -/
import Derived.Test.YtadinbjhpbomkaaPts
import Derived.Test.YtadinbjhpbomkaaTurn
import Derived.Test.YtadinbjhpbomkaaForm
namespace Go.Proofs.Ytadinbjhpbomkaa
open Go.RowKit Go.Deep

/-- How many parts follow a point node of a kind. -/
def arP (k : Int) : Nat := if k = 4 ∨ k = 5 ∨ k = 6 then 2 else if k = 7 ∨ k = 8 then 1 else 0
theorem arP_le (k : Int) : arP k ≤ 2 := by unfold arP; split <;> (try split) <;> omega
theorem arP_two {k : Int} (h : k = 4 ∨ k = 5 ∨ k = 6) : arP k = 2 := by simp [arP, h]
theorem arP_one {k : Int} (h : k = 7 ∨ k = 8) : arP k = 1 := by unfold arP; rw [if_neg (by omega), if_pos h]
theorem arP_none {k : Int} (h : k < 4 ∨ 8 < k) : arP k = 0 := by unfold arP; rw [if_neg (by omega), if_neg (by omega)]
theorem arP_cases (k : Int) : k = 4 ∨ k = 5 ∨ k = 6 ∨ k = 7 ∨ k = 8 ∨ k < 4 ∨ 8 < k := by omega

/-- A point node as a node of a formula with as many parts. -/
def mp (n : Pt) : Nd := (if 4 ≤ n.1 ∧ n.1 ≤ 8 then n.1 - 2 else 1, 0)
theorem ar_mp (n : Pt) : ar (mp n).1 = arP n.1 := by
  obtain ⟨k, y, z⟩ := n
  unfold mp
  rcases arP_cases k with rfl | rfl | rfl | rfl | rfl | h
  · rfl
  · rfl
  · rfl
  · rfl
  · rfl
  · show ar (if 4 ≤ k ∧ k ≤ 8 then k - 2 else 1) = _
    rw [if_neg (by omega)]
    rw [arP_none h]; rfl
def pEnd (ns : List Pt) (i : Nat) : Int := partEndL (ns.map mp) i
theorem skipP_next {ns : List Pt} {j op : Nat} {x y z : Int} (hx : ns[j]? = some (x, y, z)) : skip ((ns.map mp).drop j) (op + 1) = skip ((ns.map mp).drop (j + 1)) (op + arP x) := by
  have h := skip_next (ns := ns.map mp) (j := j) (op := op) (x := (mp (x, y, z)).1) (y := (mp (x, y, z)).2) (by rw [List.getElem?_map, hx]; rfl)
  rw [ar_mp] at h
  exact h

def ptB (n : Pt) : Bool := if n.1 = 0 ∨ n.1 = 1 then inR n.2.1 0 9 && inR n.2.2 0 9 else if n.1 = 2 then inR n.2.1 0 5 && inR n.2.2 0 9 else if n.1 = 7 ∨ n.1 = 8 then inR n.2.1 0 9 && decide (n.2.2 = 0) else inR n.1 3 6 && decide (n.2.1 = 0) && decide (n.2.2 = 0)
def ptFormB (ns : List Pt) : Bool := decide (1 ≤ ns.length) && decide (ns.length ≤ 120) && ns.all ptB && decide (skip (ns.map mp) 1 = some [])
theorem ptB_sees {x y z : Int} (h : x = 0 ∨ x = 1) : ptB (x, y, z) = (inR y 0 9 && inR z 0 9) := by simp [ptB, h]
theorem ptB_val {y z : Int} : ptB (2, y, z) = (inR y 0 5 && inR z 0 9) := by simp [ptB]
theorem ptB_quant {x y z : Int} (h : x = 7 ∨ x = 8) : ptB (x, y, z) = (inR y 0 9 && decide (z = 0)) := by
  unfold ptB
  rw [if_neg (by show ¬ (x = 0 ∨ x = 1); omega), if_neg (by show ¬ (x = 2); omega), if_pos h]
theorem ptB_else {x y z : Int} (h : ¬ (x = 0 ∨ x = 1 ∨ x = 2 ∨ x = 7 ∨ x = 8)) : ptB (x, y, z) = (inR x 3 6 && decide (y = 0) && decide (z = 0)) := by
  unfold ptB
  rw [if_neg (by show ¬ (x = 0 ∨ x = 1); omega), if_neg (by show ¬ (x = 2); omega), if_neg (by show ¬ (x = 7 ∨ x = 8); omega)]
theorem pt_cases (x : Int) : (x = 0 ∨ x = 1) ∨ x = 2 ∨ (x = 7 ∨ x = 8) ∨ ¬ (x = 0 ∨ x = 1 ∨ x = 2 ∨ x = 7 ∨ x = 8) := by omega


/-- A point node as a value. -/
def aggP (n : Pt) : Value := .agg #[.int .i64 n.1, .int .i64 n.2.1, .int .i64 n.2.2]




theorem pf_long {ns : List Pt} (h : 120 < ns.length) : ptFormB ns = false := by simp [ptFormB]; omega
theorem pf_bad {ns : List Pt} (h : ns.all ptB = false) : ptFormB ns = false := by simp [ptFormB, h]
theorem pf_empty {ns : List Pt} (h : ns.length ≤ 0) : ptFormB ns = false := by simp [ptFormB]; omega
theorem pf_rest {ns : List Pt} (h1 : 1 ≤ ns.length) (h2 : ns.length ≤ 120) (h3 : ns.all ptB = true) : ptFormB ns = (pEnd ns 0 == (ns.length : Int)) := by
  have hl : (ns.map mp).length = ns.length := List.length_map _
  unfold pEnd
  rw [Bool.eq_iff_iff, beq_iff_eq, ← hl, partEnd_len]
  simp [ptFormB, h1, h2, h3]


end Go.Proofs.Ytadinbjhpbomkaa
