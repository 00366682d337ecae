/- Walks of MaskOf and ChooseMasks, of the program and of the reference. -/
import Derived.Test.YtobbhflajkhcdaaMembers
import Derived.Test.YtobbhflajkhcdaaPred
namespace Go.Proofs.Ytobbhflajkhcdaa
open Go.RowKit

/-- The mask of the numbers of a list. -/
def orBits (xs : List Int) : Nat := xs.foldl (fun acc x => acc ||| 2 ^ x.toNat) 0

theorem orBits_succ (xs : List Int) (k : Nat) (x : Int) (hx : xs[k]? = some x) : orBits (xs.take (k + 1)) = orBits (xs.take k) ||| 2 ^ x.toNat := by
  have hk : k < xs.length := (List.getElem?_eq_some_iff.1 hx).1
  have e : xs.take (k + 1) = xs.take k ++ [x] := by
    rw [List.take_add_one, hx]; rfl
  rw [e]
  simp [orBits, List.foldl_append]

theorem or_step (m x : Int) (h0 : 0 ≤ m) (h1 : m < 1073741824) (_h2 : 0 ≤ x) (h3 : x ≤ 29) :
    bits BinOp.or IntKind.i64 m (2 ^ x.toNat) = ((m.toNat ||| 2 ^ x.toNat : Nat) : Int) ∧ 0 ≤ bits BinOp.or IntKind.i64 m (2 ^ x.toNat) ∧ bits BinOp.or IntKind.i64 m (2 ^ x.toNat) < 1073741824 := by
  have hp := pow_bounds x 29 (by omega)
  rw [show (2 : Int) ^ 29 = 536870912 by decide] at hp
  have e : ((2 : Int) ^ x.toNat) = ((2 ^ x.toNat : Nat) : Int) := by simp
  have hq : (2 : Nat) ^ x.toNat < 2 ^ 30 := by rw [e] at hp; omega
  have hr : m.toNat ||| 2 ^ x.toNat < 2 ^ 30 := Nat.or_lt_two_pow (by omega) hq
  rw [e] at hp
  rw [e, i64_or _ _ h0 (by omega) (by omega) (by omega), Int.toNat_natCast]
  refine ⟨rfl, by omega, by omega⟩

def maskOfCode (n : Int) (xs : List Int) : Int := if inR n 0 30 then if xs.all (inR · 0 (n - 1)) then 0 else 1 else 2
def maskOfR (n : Int) (xs : List Int) : Int := if inR n 0 30 && xs.all (inR · 0 (n - 1)) then (orBits xs : Nat) else 0


end Go.Proofs.Ytobbhflajkhcdaa
