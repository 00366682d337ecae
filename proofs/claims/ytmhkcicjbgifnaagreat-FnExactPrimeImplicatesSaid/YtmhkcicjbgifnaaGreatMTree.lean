/- Plain theory of formulas as lists of nodes in Polish order: where a part ends, and the tree that a formula is. No program is named here. -/
import Derived.WalkKit
import Derived.Deep.Trees

namespace Go.Proofs.YtmhkcicjbgifnaaGreat
open Go.RowKit Go.Deep

abbrev Nd := Int × Int

/-- How many parts follow a node of a kind. -/
def ar (k : Int) : Nat := if k = 2 ∨ k = 3 ∨ k = 4 then 2 else if k = 5 ∨ k = 6 then 1 else 0

theorem ar_le (k : Int) : ar k ≤ 2 := by unfold ar; split <;> (try split) <;> omega

/-- What is left of a list behind o parts. -/
def skip : List Nd → Nat → Option (List Nd)
  | l, 0 => some l
  | [], _ + 1 => none
  | n :: l, o + 1 => skip l (o + ar n.1)

theorem skip_zero (l : List Nd) : skip l 0 = some l := by cases l <;> rfl
theorem skip_nil (o : Nat) : skip [] (o + 1) = none := rfl
theorem skip_cons (n : Nd) (l : List Nd) (o : Nat) : skip (n :: l) (o + 1) = skip l (o + ar n.1) := rfl

theorem skip_add (l : List Nd) (a b : Nat) : skip l (a + b) = (skip l a).bind (skip · b) := by
  induction l generalizing a with
  | nil =>
    cases a with
    | zero => simp [skip_zero]
    | succ a => rw [show a + 1 + b = (a + b) + 1 by omega, skip_nil, skip_nil]; rfl
  | cons n l ih =>
    cases a with
    | zero => simp [skip_zero]
    | succ a =>
      rw [show a + 1 + b = (a + b) + 1 by omega, skip_cons, skip_cons, show a + b + ar n.1 = (a + ar n.1) + b by omega, ih]

/-- What is left is an end of the list, and shorter where a part was there. -/
theorem skip_suffix (l : List Nd) (o : Nat) (r : List Nd) (h : skip l o = some r) : ∃ p, l = p ++ r ∧ o ≤ p.length := by
  induction l generalizing o with
  | nil =>
    cases o with
    | zero => rw [skip_zero] at h; cases h; exact ⟨[], rfl, Nat.le_refl _⟩
    | succ o => cases h
  | cons n l ih =>
    cases o with
    | zero => rw [skip_zero] at h; cases h; exact ⟨[], rfl, Nat.le_refl _⟩
    | succ o =>
      rw [skip_cons] at h
      obtain ⟨p, rfl, hp⟩ := ih _ h
      exact ⟨n :: p, rfl, by simp only [List.length_cons]; omega⟩

/-- The index behind the part at index i of a list, or -1. -/
def partEndL (ns : List Nd) (i : Nat) : Int :=
  match skip (ns.drop i) 1 with
  | none => -1
  | some r => ns.length - r.length

abbrev Tr := BT Nd

/-- The nodes of a tree, in Polish order. -/
def flat : Tr → List Nd
  | .nil => []
  | .node _ _ n l r => n :: (flat l ++ flat r)

/-- A tree whose nodes have the parts that their kinds want. -/
def okT : Tr → Prop
  | .nil => False
  | .node _ _ n l r => (ar n.1 = 0 ∧ l = .nil ∧ r = .nil) ∨ (ar n.1 = 1 ∧ okT l ∧ r = .nil) ∨ (ar n.1 = 2 ∧ okT l ∧ okT r)

theorem skip_flat (t : Tr) (h : okT t) (l : List Nd) (o : Nat) : skip (flat t ++ l) (o + 1) = skip l o := by
  induction t generalizing l o with
  | nil => exact h.elim
  | node _ _ n a b iha ihb =>
    simp only [flat, List.cons_append, skip_cons, List.append_assoc]
    rcases h with ⟨h1, rfl, rfl⟩ | ⟨h1, h2, rfl⟩ | ⟨h1, h2, h3⟩
    · rw [h1]; simp [flat]
    · rw [h1, iha h2]; simp [flat]
    · rw [h1, show o + 2 = (o + 1) + 1 by omega, iha h2, ihb h3]

theorem flat_pos (t : Tr) (h : okT t) : 0 < (flat t).length := by
  cases t with
  | nil => exact h.elim
  | node _ _ n a b => simp [flat]

/-- A part is the list of a tree. -/
theorem tree_of_skip (k : Nat) : ∀ (l r : List Nd), l.length ≤ k → skip l 1 = some r → ∃ t, okT t ∧ l = flat t ++ r := by
  induction k with
  | zero =>
    intro l r hl h
    have : l = [] := List.eq_nil_of_length_eq_zero (by omega)
    subst this
    cases h
  | succ k ih =>
    intro l r hl h
    cases l with
    | nil => cases h
    | cons n l =>
      rw [skip_cons] at h
      simp only [List.length_cons] at hl
      have ha := ar_le n.1
      rcases (show ar n.1 = 0 ∨ ar n.1 = 1 ∨ ar n.1 = 2 by omega) with h0 | h0 | h0
      · rw [h0, skip_zero] at h
        cases h
        exact ⟨.node 0 0 n .nil .nil, .inl ⟨h0, rfl, rfl⟩, by simp [flat]⟩
      · rw [h0] at h
        obtain ⟨t, ht, rfl⟩ := ih l r (by omega) h
        exact ⟨.node 0 0 n t .nil, .inr (.inl ⟨h0, ht, rfl⟩), by simp [flat]⟩
      · rw [h0, show 0 + 2 = 1 + 1 by omega, skip_add] at h
        cases hm : skip l 1 with
        | none => rw [hm] at h; cases h
        | some m =>
          rw [hm] at h
          obtain ⟨t, ht, rfl⟩ := ih l m (by omega) hm
          obtain ⟨p, hp, _⟩ := skip_suffix _ _ _ hm
          have hl2 : m.length ≤ k := by simp only [List.length_append] at hl; omega
          obtain ⟨u, hu, rfl⟩ := ih m r hl2 h
          exact ⟨.node 0 0 n t u, .inr (.inr ⟨h0, ht, hu⟩), by simp [flat]⟩

theorem partEndL_at (pre rest : List Nd) (t : Tr) (h : okT t) : partEndL (pre ++ (flat t ++ rest)) pre.length = pre.length + (flat t).length := by
  unfold partEndL
  rw [List.drop_left, skip_flat t h, skip_zero]
  simp only [List.length_append]
  omega

/-- Whether a node is one of a formula. -/
def nodeB (n : Nd) : Bool := if n.1 = 0 then decide (0 ≤ n.2 ∧ n.2 ≤ 5) else decide (1 ≤ n.1 ∧ n.1 ≤ 6) && decide (n.2 = 0)

/-- Whether a list is a formula. -/
def formB (ns : List Nd) : Bool := decide (1 ≤ ns.length) && decide (ns.length ≤ 40) && ns.all nodeB && decide (skip ns 1 = some [])

theorem form_tree {ns : List Nd} (h : formB ns = true) : ∃ t, okT t ∧ ns = flat t ∧ ns.length ≤ 40 ∧ ∀ n ∈ ns, nodeB n = true := by
  simp only [formB, Bool.and_eq_true, decide_eq_true_eq, List.all_eq_true] at h
  obtain ⟨⟨⟨h1, h2⟩, h3⟩, h4⟩ := h
  obtain ⟨t, ht, hf⟩ := tree_of_skip _ ns [] (Nat.le_refl _) h4
  rw [List.append_nil] at hf
  exact ⟨t, ht, hf, h2, h3⟩

theorem tree_form {t : Tr} (h : okT t) (h2 : (flat t).length ≤ 40) (h3 : ∀ n ∈ flat t, nodeB n = true) : formB (flat t) = true := by
  have := flat_pos t h
  have h4 := skip_flat t h [] 0
  rw [List.append_nil, skip_zero] at h4
  simp only [formB, Bool.and_eq_true, decide_eq_true_eq, List.all_eq_true]
  exact ⟨⟨⟨by omega, h2⟩, h3⟩, h4⟩

/-- The tree of a list, read with some fuel, and what is left. -/
def parseT : Nat → List Nd → Tr × List Nd
  | 0, l => (.nil, l)
  | _ + 1, [] => (.nil, [])
  | k + 1, n :: l => if ar n.1 = 0 then (.node 0 0 n .nil .nil, l) else if ar n.1 = 1 then (.node 0 0 n (parseT k l).1 .nil, (parseT k l).2) else (.node 0 0 n (parseT k l).1 (parseT k (parseT k l).2).1, (parseT k (parseT k l).2).2)

/-- A tree without addresses. -/
def normT : Tr → Tr
  | .nil => .nil
  | .node _ _ n l r => .node 0 0 n (normT l) (normT r)

theorem normT_ok (t : Tr) (h : okT t) : okT (normT t) ∧ flat (normT t) = flat t := by
  induction t with
  | nil => exact h.elim
  | node _ _ n a b iha ihb =>
    rcases h with ⟨h1, rfl, rfl⟩ | ⟨h1, h2, rfl⟩ | ⟨h1, h2, h3⟩
    · exact ⟨.inl ⟨h1, rfl, rfl⟩, rfl⟩
    · refine ⟨.inr (.inl ⟨h1, (iha h2).1, rfl⟩), ?_⟩
      simp [normT, flat, (iha h2).2]
    · refine ⟨.inr (.inr ⟨h1, (iha h2).1, (ihb h3).1⟩), ?_⟩
      simp [normT, flat, (iha h2).2, (ihb h3).2]

theorem parseT_flat (k : Nat) : ∀ (t : Tr) (l : List Nd), okT t → (flat t).length ≤ k → parseT k (flat t ++ l) = (normT t, l) := by
  induction k with
  | zero =>
    intro t l h hk
    have := flat_pos t h
    omega
  | succ k ih =>
    intro t l h hk
    cases t with
    | nil => exact h.elim
    | node _ _ n a b =>
      simp only [flat, List.length_cons, List.length_append] at hk
      simp only [flat, List.cons_append, List.append_assoc, parseT]
      rcases h with ⟨h1, rfl, rfl⟩ | ⟨h1, h2, rfl⟩ | ⟨h1, h2, h3⟩
      · rw [if_pos h1]; rfl
      · rw [if_neg (by omega), if_pos h1, ih a _ h2 (by omega)]; rfl
      · rw [if_neg (by omega), if_neg (by omega), ih a _ h2 (by omega), ih b _ h3 (by omega)]; rfl

/-- The tree of a formula. -/
def treeOf (ns : List Nd) : Tr := (parseT ns.length ns).1

theorem treeOf_spec {ns : List Nd} (h : formB ns = true) : okT (treeOf ns) ∧ flat (treeOf ns) = ns := by
  obtain ⟨t, ht, hf, _⟩ := form_tree h
  have hp := parseT_flat ns.length t [] ht (by rw [hf]; exact Nat.le_refl _)
  rw [List.append_nil, ← hf] at hp
  unfold treeOf
  rw [hp]
  exact ⟨(normT_ok t ht).1, by rw [(normT_ok t ht).2, hf]⟩
end Go.Proofs.YtmhkcicjbgifnaaGreat
