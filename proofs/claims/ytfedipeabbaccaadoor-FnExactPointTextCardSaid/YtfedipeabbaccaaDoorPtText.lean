/- PointText: the plain law: the text of a point formula's tree. -/
import Derived.Test.YtfedipeabbaccaaDoorPtTree
import Derived.Test.YtfedipeabbaccaaDoorDec
namespace Go.Proofs.YtfedipeabbaccaaDoor
open Go.RowKit Go.Deep

def letP (y : Int) : ByteArray := (ByteArray.mk #[112, 113, 114, 115, 116, 117]).extract y.toNat (y.toNat + 1)
def signP (x : Int) : ByteArray := if x = 5 then ByteArray.mk #[124] else if x = 6 then ByteArray.mk #[62] else ByteArray.mk #[38]
def falsP : PTr → Bool
  | .nil => false
  | .node _ _ n _ _ => decide (n.1 = 3)
def ptT : PTr → ByteArray
  | .nil => ByteArray.mk #[]
  | .node _ _ n l r =>
    if n.1 = 0 then ByteArray.mk #[82] ++ dec1 n.2.1 ++ dec1 n.2.2
    else if n.1 = 1 then dec1 n.2.1 ++ ByteArray.mk #[61] ++ dec1 n.2.2
    else if n.1 = 2 then letP n.2.1 ++ dec1 n.2.2
    else if n.1 = 3 then ByteArray.mk #[70]
    else if n.1 = 7 then ByteArray.mk #[65] ++ dec1 n.2.1 ++ ptT l
    else if n.1 = 8 then ByteArray.mk #[69] ++ dec1 n.2.1 ++ ptT l
    else if n.1 = 6 ∧ falsP r = true then ByteArray.mk #[126] ++ ptT l
    else ByteArray.mk #[40] ++ ptT l ++ signP n.1 ++ ptT r ++ ByteArray.mk #[41]
theorem ptT_node {b o : Nat} {n : Pt} {l r : PTr} : ptT (.node b o n l r) = if n.1 = 0 then ByteArray.mk #[82] ++ dec1 n.2.1 ++ dec1 n.2.2
    else if n.1 = 1 then dec1 n.2.1 ++ ByteArray.mk #[61] ++ dec1 n.2.2
    else if n.1 = 2 then letP n.2.1 ++ dec1 n.2.2
    else if n.1 = 3 then ByteArray.mk #[70]
    else if n.1 = 7 then ByteArray.mk #[65] ++ dec1 n.2.1 ++ ptT l
    else if n.1 = 8 then ByteArray.mk #[69] ++ dec1 n.2.1 ++ ptT l
    else if n.1 = 6 ∧ falsP r = true then ByteArray.mk #[126] ++ ptT l
    else ByteArray.mk #[40] ++ ptT l ++ signP n.1 ++ ptT r ++ ByteArray.mk #[41] := rfl
theorem dec1_size (n : Int) : (dec1 n).size = 1 := rfl
theorem letP_size (y : Int) : (letP y).size ≤ 6 := by
  unfold letP
  rw [ByteArray.size_extract]
  have : (ByteArray.mk #[112, 113, 114, 115, 116, 117]).size = 6 := rfl
  omega
theorem ptT_size (t : PTr) : (ptT t).size ≤ 8 * (flatP t).length := by
  induction t with
  | nil => exact Nat.zero_le _
  | node b o n l r ihl ihr =>
    have e : (flatP (.node b o n l r)).length = 1 + (flatP l).length + (flatP r).length := by simp [flatP]; omega
    have d1 := dec1_size n.2.1
    have d2 := dec1_size n.2.2
    have l1 := letP_size n.2.1
    have s1 : (signP n.1).size = 1 := by unfold signP; split <;> (try split) <;> rfl
    have c1 : ∀ x, (ByteArray.mk #[x]).size = 1 := fun _ => rfl
    rw [e, ptT_node]
    repeat' split
    all_goals
      simp only [ByteArray.size_append, c1, d1, d2, s1]
      omega
end Go.Proofs.YtfedipeabbaccaaDoor
