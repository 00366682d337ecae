/- Plain theory: the first bad step of a resolution. No program is named here. -/
import Derived.Test.YtobbhflajkhcdaaResMath
namespace Go.Proofs.Ytobbhflajkhcdaa
open Go.RowKit Go.Lib

/-- A step: its clause, the two earlier steps, the variable. -/
abbrev Stp := List Int × Int × Int × Int
def resAt (S : List Stp) (l r v : Int) (c : List Int) : Bool :=
  match S[l.toNat]?, S[r.toNat]? with
  | some a, some b => resOk a.1 b.1 v && decide (resL a.1 b.1 v = c)
  | _, _ => false
/-- The step s, the steps S before it, is good. -/
def fineB (Is : List (List Int)) (S : List Stp) (s : Stp) : Bool :=
  if s.2.1 = -1 ∧ s.2.2.1 = -1 ∧ s.2.2.2 = -1 then decide (s.1 ∈ Is)
  else inR s.2.1 0 ((S.length : Int) - 1) && inR s.2.2.1 0 ((S.length : Int) - 1) && inR s.2.2.2 0 5 && resAt S s.2.1 s.2.2.1 s.2.2.2 s.1
/-- All steps below k are good. -/
def fineTo (Is : List (List Int)) (S : List Stp) (k : Nat) : Prop := ∀ i s, i < k → S[i]? = some s → fineB Is (S.take i) s = true
theorem fineTo_zero (Is : List (List Int)) (S : List Stp) : fineTo Is S 0 := fun i _ h => by omega
theorem fineTo_succ {Is : List (List Int)} {S : List Stp} {k : Nat} {s : Stp} (h : fineTo Is S k) (hs : S[k]? = some s) (hf : fineB Is (S.take k) s = true) : fineTo Is S (k + 1) := by
  intro i t hi ht
  rcases Nat.lt_or_ge i k with h1 | h1
  · exact h i t h1 ht
  · obtain rfl : i = k := by omega
    rw [hs] at ht
    obtain rfl := Option.some.inj ht
    exact hf
theorem fine_clause {Is : List (List Int)} {S : List Stp} {s : Stp} (hI : ∀ I ∈ Is, clauseB I = true) (h : fineB Is S s = true) : clauseB s.1 = true := by
  unfold fineB at h
  split at h
  · exact hI _ (by simpa using h)
  · simp only [Bool.and_eq_true] at h
    have h2 := h.2
    unfold resAt at h2
    split at h2
    · rw [Bool.and_eq_true, decide_eq_true_eq] at h2
      rw [← h2.2]
      have h3 := h2.1
      unfold resOk at h3
      rw [Bool.and_eq_true] at h3
      exact h3.2
    · cases h2
theorem fineTo_clause {Is : List (List Int)} {S : List Stp} {k i : Nat} {s : Stp} (hI : ∀ I ∈ Is, clauseB I = true) (h : fineTo Is S k) (hi : i < k) (hs : S[i]? = some s) : clauseB s.1 = true := fine_clause hI (h i s hi hs)
/-- The answer is fixed by what it must be. -/
def isFirst (Is : List (List Int)) (S : List Stp) (x : Int) : Prop :=
  (x = -1 ∧ fineTo Is S S.length) ∨ ∃ (k : Nat) (s : Stp), x = k ∧ S[k]? = some s ∧ fineTo Is S k ∧ fineB Is (S.take k) s = false
theorem isFirst_one {Is : List (List Int)} {S : List Stp} {x y : Int} (hx : isFirst Is S x) (hy : isFirst Is S y) : x = y := by
  rcases hx with ⟨rfl, hx⟩ | ⟨k, s, rfl, hk, hf, hb⟩ <;> rcases hy with ⟨rfl, hy⟩ | ⟨j, t, rfl, hj, hg, hc⟩
  · rfl
  · have := hx j t (List.getElem?_eq_some_iff.1 hj).1 hj
    rw [hc] at this; cases this
  · have := hy k s (List.getElem?_eq_some_iff.1 hk).1 hk
    rw [hb] at this; cases this
  · rcases Nat.lt_trichotomy k j with h | h | h
    · have := hg k s h hk; rw [hb] at this; cases this
    · rw [h]
    · have := hf j t h hj; rw [hc] at this; cases this
end Go.Proofs.Ytobbhflajkhcdaa
