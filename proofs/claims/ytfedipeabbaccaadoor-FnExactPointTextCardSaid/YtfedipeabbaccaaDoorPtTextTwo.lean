/- PointText: the reference's recursion. -/
import Derived.Test.YtfedipeabbaccaaDoorPtText
import Derived.Test.YtfedipeabbaccaaDoorTextThree
import Derived.Test.YtfedipeabbaccaaDoorFreeTwo
namespace Go.Proofs.YtfedipeabbaccaaDoor
open Go.RowKit Go.Deep

theorem ptT_sees {b o : Nat} {y z : Int} {l r : PTr} : ptT (.node b o (0, y, z) l r) = ByteArray.mk #[82] ++ dec1 y ++ dec1 z := by rw [ptT_node]; simp
theorem ptT_eq {b o : Nat} {y z : Int} {l r : PTr} : ptT (.node b o (1, y, z) l r) = dec1 y ++ ByteArray.mk #[61] ++ dec1 z := by rw [ptT_node]; simp
theorem ptT_val {b o : Nat} {y z : Int} {l r : PTr} : ptT (.node b o (2, y, z) l r) = letP y ++ dec1 z := by rw [ptT_node]; simp
theorem ptT_false {b o : Nat} {y z : Int} {l r : PTr} : ptT (.node b o (3, y, z) l r) = ByteArray.mk #[70] := by rw [ptT_node]; simp
theorem ptT_all {b o : Nat} {y z : Int} {l r : PTr} : ptT (.node b o (7, y, z) l r) = ByteArray.mk #[65] ++ dec1 y ++ ptT l := by rw [ptT_node]; simp
theorem ptT_ex {b o : Nat} {y z : Int} {l r : PTr} : ptT (.node b o (8, y, z) l r) = ByteArray.mk #[69] ++ dec1 y ++ ptT l := by rw [ptT_node]; simp
theorem ptT_not {b o : Nat} {y z : Int} {l r : PTr} (h : falsP r = true) : ptT (.node b o (6, y, z) l r) = ByteArray.mk #[126] ++ ptT l := by rw [ptT_node]; simp [h]
theorem ptT_imp {b o : Nat} {y z : Int} {l r : PTr} (h : falsP r = false) : ptT (.node b o (6, y, z) l r) = ByteArray.mk #[40] ++ ptT l ++ ByteArray.mk #[62] ++ ptT r ++ ByteArray.mk #[41] := by rw [ptT_node]; simp [h, signP]
theorem ptT_and {b o : Nat} {y z : Int} {l r : PTr} : ptT (.node b o (4, y, z) l r) = ByteArray.mk #[40] ++ ptT l ++ ByteArray.mk #[38] ++ ptT r ++ ByteArray.mk #[41] := by rw [ptT_node]; simp [signP]
theorem ptT_or {b o : Nat} {y z : Int} {l r : PTr} : ptT (.node b o (5, y, z) l r) = ByteArray.mk #[40] ++ ptT l ++ ByteArray.mk #[124] ++ ptT r ++ ByteArray.mk #[41] := by rw [ptT_node]; simp [signP]
end Go.Proofs.YtfedipeabbaccaaDoor
