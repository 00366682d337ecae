/- Walks of ReflexiveClosure and InverseRelation, of the program and of the reference. -/
import Derived.Test.YtfedipeabbaccaaRels
import Derived.Lib.SliceRun
import Derived.Deep.RegionLaw
import Derived.Deep.AppendLies
namespace Go.Proofs.Ytfedipeabbaccaa
open Go.RowKit

theorem still_eq {P : Program} {f : FuncId} {args : Array Value} {w : World} {v : Value} (h : Calls P f args w fun e w' => e = .returned v ∧ w = w') : Calls P f args w fun e w' => e = .returned v ∧ w' = w :=
  h.mono fun _ _ ⟨he, hm⟩ => ⟨he, hm.symm⟩


theorem mid_get {α : Type} {ys bs : List α} {k : Nat} {z x : α} (h : (ys.take k ++ bs.drop k)[k]? = some z) (hx : bs[k]? = some x) (hl : k ≤ ys.length) : z = x := by
  rw [List.getElem?_append_right (by simp; omega)] at h
  rw [List.length_take, Nat.min_eq_left hl, Nat.sub_self, List.getElem?_drop, Nat.add_zero, hx] at h
  exact (Option.some.inj h).symm



def reflRR (xs : List Int) : List Int := if relCode xs = 0 then reflR xs else []
theorem reflRR_length (xs : List Int) : (reflRR xs).length ≤ 1000000 := by
  unfold reflRR
  split
  · rename_i h
    rw [reflR_length]
    rcases relCode_cases xs with h1 | h1 | h1 <;> omega
  · simp
theorem relCode_ne {xs : List Int} (h : ¬ relCode xs = 0) : (relCode xs != 0) = true := by simpa using h
theorem relCode_ok {xs : List Int} (h : relCode xs = 0) : xs.length ≤ 30 ∧ relB xs = true := by
  rcases relCode_cases xs with h1 | h1 | h1
  · omega
  · omega
  · exact ⟨h1.1, h1.2.1⟩


end Go.Proofs.Ytfedipeabbaccaa
