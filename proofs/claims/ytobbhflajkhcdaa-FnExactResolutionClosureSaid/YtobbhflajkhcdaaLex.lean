/- Plain theory: the lexical order of lists of integers; lists of clauses; what has no doubles and lies below a number is no longer than that number. No program is named here. -/
import Derived.Test.YtobbhflajkhcdaaResMath
namespace Go.Proofs.Ytobbhflajkhcdaa
open Go.RowKit Go.Lib
set_option linter.unusedVariables false

abbrev ltI (x y : List Int) : Prop := x < y
theorem lo_lists : LO ltI where
  irr := fun a => List.lt_irrefl a
  tr := fun a b c h1 h2 => List.lt_trans h1 h2
  tri := fun a b h1 h2 => List.le_antisymm (List.not_lt.1 h2) (List.not_lt.1 h1)
theorem ltI_nil (y : Int) (ys : List Int) : ltI [] (y :: ys) := List.nil_lt_cons y ys
theorem ltI_nil_no (x : List Int) : ¬ ltI x [] := List.not_lt_nil x
theorem ltI_cons {x y : Int} {xs ys : List Int} : ltI (x :: xs) (y :: ys) ↔ x < y ∨ (x = y ∧ ltI xs ys) := List.cons_lt_cons_iff
/-- The order of two lists that agree up to one place. -/
theorem ltI_at : ∀ (xs ys : List Int) (k : Nat) (x y : Int), (∀ j, j < k → xs[j]? = ys[j]?) → xs[k]? = some x → ys[k]? = some y → x ≠ y → (ltI xs ys ↔ x < y)
  | [], _, k, _, _, _, h, _, _ => by simp at h
  | _ :: _, [], k, _, _, _, _, h, _ => by simp at h
  | a :: xs, b :: ys, 0, x, y, _, hx, hy, hne => by
    have e1 : a = x := by simpa using hx
    have e2 : b = y := by simpa using hy
    subst e1; subst e2
    rw [ltI_cons]
    constructor
    · rintro (h | ⟨h, _⟩)
      · exact h
      · exact absurd h hne
    · exact .inl
  | a :: xs, b :: ys, k + 1, x, y, h, hx, hy, hne => by
    have e : a = b := by simpa using h 0 (by omega)
    subst e
    have ih := ltI_at xs ys k x y (fun j hj => by simpa using h (j + 1) (by omega)) (by simpa using hx) (by simpa using hy) hne
    rw [ltI_cons, ← ih]
    constructor
    · rintro (h | ⟨_, h⟩)
      · exact absurd h (Int.lt_irrefl a)
      · exact h
    · exact fun h => .inr ⟨rfl, h⟩
/-- The order of two lists of which one begins with the other. -/
theorem ltI_pre : ∀ (xs ys : List Int), (∀ j, j < xs.length → j < ys.length → xs[j]? = ys[j]?) → (ltI xs ys ↔ xs.length < ys.length)
  | [], [], _ => by simp
  | [], b :: ys, _ => by simp [ltI_nil]
  | a :: xs, [], _ => by simp
  | a :: xs, b :: ys, h => by
    have e : a = b := by simpa using h 0 (by simp) (by simp)
    subst e
    have ih := ltI_pre xs ys (fun j h1 h2 => by simpa using h (j + 1) (by simpa using h1) (by simpa using h2))
    rw [ltI_cons]
    constructor
    · rintro (h | ⟨_, h⟩)
      · exact absurd h (Int.lt_irrefl a)
      · simpa using ih.1 h
    · intro h
      exact .inr ⟨rfl, ih.2 (by simpa using h)⟩

/-- What has no doubles and lies below n has no more than n members. -/
theorem nodup_len : ∀ (n : Nat) (l : List Nat), l.Nodup → (∀ x ∈ l, x < n) → l.length ≤ n := by
  intro n
  induction n with
  | zero =>
    intro l _ h
    cases l with
    | nil => simp
    | cons a l => exact absurd (h a List.mem_cons_self) (Nat.not_lt_zero a)
  | succ n ih =>
    intro l hl h
    have h1 := ih (l.filter fun x => x != n) (hl.filter _) (fun x hx => by
      rw [List.mem_filter] at hx
      have h2 := h x hx.1
      have h3 : x ≠ n := by simpa using hx.2
      omega)
    have h2 : l.length ≤ (l.filter fun x => x != n).length + 1 := by
      clear ih h h1
      induction l with
      | nil => simp
      | cons a l ihl =>
        rw [List.nodup_cons] at hl
        by_cases e : a = n
        · subst e
          have h3 : (l.filter fun x => x != a) = l := List.filter_eq_self.2 fun x hx => by
            have : x ≠ a := fun e2 => hl.1 (e2 ▸ hx)
            simpa using this
          rw [List.filter_cons_of_neg (by simp), h3, List.length_cons]
          exact Nat.le_refl _
        · rw [List.filter_cons_of_pos (by simpa using e), List.length_cons, List.length_cons]
          have := ihl hl.2
          omega
    omega
end Go.Proofs.Ytobbhflajkhcdaa
