/- Plain theory: the texts of all parts of a formula, in order, each once. -/
import Derived.Test.YtkhbimdahjkgoaaOrd
import Derived.Test.YtkhbimdahjkgoaaStrSort
import Derived.Test.YtkhbimdahjkgoaaTextMath
import Derived.Test.YtkhbimdahjkgoaaOccur
namespace Go.Proofs.Ytkhbimdahjkgoaa
open Go.RowKit Go.Sort
set_option linter.unusedVariables false

theorem lo_bytes : LO (fun x y : Bs => x < y) where
  irr := fun a => List.lt_irrefl a
  tr := fun a b c h1 h2 => List.lt_trans h1 h2
  tri := fun a b h1 h2 => List.le_antisymm (List.not_lt.1 h2) (List.not_lt.1 h1)
/-- The texts of all parts, in the order of their first nodes. -/
def subT (a : List Nd) : List Bs := (List.range a.length).map fun i => byS (txtB (treeOf (partL a i)))
theorem subT_length (a : List Nd) : (subT a).length = a.length := by simp [subT]
theorem subT_get (a : List Nd) (k : Nat) (h : k < a.length) : (subT a)[k]? = some (byS (txtB (treeOf (partL a k)))) := by
  simp [subT, List.getElem?_map, List.getElem?_range h]
theorem subT_succ (a : List Nd) (k : Nat) (h : k < a.length) : (subT a).take (k + 1) = (subT a).take k ++ [byS (txtB (treeOf (partL a k)))] := by
  rw [List.take_add_one, subT_get a k h]; rfl
def sfL (a : List Nd) : List Bs := allU (fun x y : Bs => x < y) (subT a)
def sfR (a : List Nd) : List Bs := if formB a then sfL a else []
def sfCode (a : List Nd) : Int := if formB a then 0 else 1
theorem sf_no {a : List Nd} (h : formB a = false) : sfR a = [] ∧ sfCode a = 1 := by simp [sfR, sfCode, h]
theorem sf_yes {a : List Nd} (h : formB a = true) : sfR a = sfL a ∧ sfCode a = 0 := by simp [sfR, sfCode, h]
theorem sorted_perm (T : List Bs) : (sortL T).Pairwise (fun a b => ¬ b < a) ∧ (sortL T).Perm T := by
  refine ⟨?_, List.mergeSort_perm T _⟩
  have h := List.pairwise_mergeSort (le := fun x y : Bs => decide (x ≤ y)) (fun a b c h1 h2 => by
    simp only [decide_eq_true_eq] at *
    exact List.le_trans h1 h2) (fun a b => by
    simp only [Bool.or_eq_true, decide_eq_true_eq]
    exact List.le_total a b) T
  exact h.imp fun {a b} hab => by
    simp only [decide_eq_true_eq] at hab
    exact List.not_lt.2 hab
theorem sf_compact (a : List Nd) : Lib.compact (sortL (subT a)) = sfL a := compact_allU lo_bytes _ _ (sorted_perm _).1 (sorted_perm _).2
theorem insU_len (t : Bs) : ∀ l : List Bs, (insU (fun x y : Bs => x < y) l t).length ≤ l.length + 1 := by
  intro l
  induction l with
  | nil => simp [insU]
  | cons b l ihl =>
    unfold insU
    split
    · simp only [List.length_cons]; omega
    · split <;> simp
theorem allU_len {T : List Bs} : (allU (fun x y : Bs => x < y) T).length ≤ T.length := by
  have key : ∀ (T l : List Bs), (T.foldl (insU (fun x y : Bs => x < y)) l).length ≤ l.length + T.length := by
    intro T
    induction T with
    | nil => intro l; simp
    | cons t T ih =>
      intro l
      rw [List.foldl_cons]
      have h1 := ih (insU (fun x y : Bs => x < y) l t)
      have h2 := insU_len t l
      simp only [List.length_cons]
      omega
  have := key T []
  simpa [allU] using this
theorem sfR_length (a : List Nd) : (sfR a).length ≤ 64 := by
  cases h : formB a with
  | false => rw [(sf_no h).1]; simp
  | true =>
    rw [(sf_yes h).1]
    have h1 : (sfL a).length ≤ (subT a).length := allU_len
    have h2 : a.length ≤ 40 := by simp only [formB, Bool.and_eq_true, decide_eq_true_eq] at h; exact h.1.1.2
    rw [subT_length] at h1
    omega
end Go.Proofs.Ytkhbimdahjkgoaa
