/- Plain theory: lists in strict order; sorting and striking out doubles; putting in. No program is named here. -/
import Derived.Lib.SlicesCompact
import Derived.Test.YtmhkcicjbgifnaaGreatMKit

namespace Go.Proofs.YtmhkcicjbgifnaaGreat
open Go.RowKit Go.Lib

structure LO {α : Type} (lt : α → α → Prop) : Prop where
  irr : ∀ a, ¬ lt a a
  tr : ∀ a b c, lt a b → lt b c → lt a c
  tri : ∀ a b, ¬ lt a b → ¬ lt b a → a = b

theorem strict_unique {α : Type} {lt : α → α → Prop} (h : LO lt) : ∀ (l m : List α), l.Pairwise lt → m.Pairwise lt → (∀ x, x ∈ l ↔ x ∈ m) → l = m := by
  intro l
  induction l with
  | nil =>
    intro m _ _ hm
    cases m with
    | nil => rfl
    | cons b m => exact absurd ((hm b).2 List.mem_cons_self) List.not_mem_nil
  | cons a l ih =>
    intro m hl hm he
    cases m with
    | nil => exact absurd ((he a).1 List.mem_cons_self) List.not_mem_nil
    | cons b m =>
      rw [List.pairwise_cons] at hl hm
      have hab : a = b := by
        have h1 := (he a).1 List.mem_cons_self
        have h2 := (he b).2 List.mem_cons_self
        rcases List.mem_cons.1 h1 with h1 | h1
        · exact h1
        · rcases List.mem_cons.1 h2 with h2 | h2
          · exact h2.symm
          · exact absurd (h.tr _ _ _ (hm.1 a h1) (hl.1 b h2)) (h.irr b)
      subst hab
      rw [ih m hl.2 hm.2 fun x => ⟨fun hx => ?_, fun hx => ?_⟩]
      · rcases List.mem_cons.1 ((he x).1 (List.mem_cons_of_mem _ hx)) with e | h1
        · subst e; exact absurd (hl.1 _ hx) (h.irr _)
        · exact h1
      · rcases List.mem_cons.1 ((he x).2 (List.mem_cons_of_mem _ hx)) with e | h1
        · subst e; exact absurd (hm.1 _ hx) (h.irr _)
        · exact h1

/-- Doubles struck out of an ordered list. -/
theorem compact_strict {α : Type} [Inhabited α] [DecidableEq α] {lt : α → α → Prop} (h : LO lt) (zs : List α) (hs : zs.Pairwise fun a b => ¬ lt b a) : (compact zs).Pairwise lt ∧ ∀ x, x ∈ compact zs ↔ x ∈ zs := by
  have key : ∀ m, m ≤ zs.length → (compactUpTo zs.toArray m).Pairwise lt ∧ (∀ x, x ∈ compactUpTo zs.toArray m ↔ x ∈ zs.take m) ∧ ∀ x ∈ compactUpTo zs.toArray m, ∀ y, zs[m - 1]? = some y → x = y ∨ lt x y := by
    intro m
    induction m with
    | zero => intro _; refine ⟨by simp [compactUpTo], fun x => by simp [compactUpTo], fun x hx => by simp [compactUpTo] at hx⟩
    | succ m ih =>
      intro hm
      obtain ⟨h1, h2, h3⟩ := ih (by omega)
      have hget : zs[m]? = some zs[m] := List.getElem?_eq_getElem (by omega)
      have hd : zs.toArray[m]! = zs[m] := by simp [show m < zs.length by omega]
      have htake : zs.take (m + 1) = zs.take m ++ [zs[m]] := by rw [List.take_add_one, hget]; rfl
      have hle : ∀ x ∈ compactUpTo zs.toArray m, x = zs[m] ∨ lt x zs[m] := by
        intro x hx
        have hm0 : 0 < m := by
          rcases Nat.eq_zero_or_pos m with h0 | h0
          · subst h0; simp [compactUpTo] at hx
          · exact h0
        have hp := List.pairwise_iff_getElem.1 hs (m - 1) m (by omega) (by omega) (by omega)
        rcases h3 x hx zs[m - 1] (List.getElem?_eq_getElem (by omega)) with e | e
        · subst e
          by_cases hlt : lt zs[m - 1] zs[m]
          · exact .inr hlt
          · exact .inl (h.tri _ _ hlt hp)
        · by_cases hlt : lt zs[m - 1] zs[m]
          · exact .inr (h.tr _ _ _ e hlt)
          · have := h.tri _ _ hlt hp
            rw [← this]; exact .inr e
      rw [compactUpTo_succ]
      cases hk : keeps zs.toArray m with
      | true =>
        simp only [if_true]
        have hne : ∀ x ∈ compactUpTo zs.toArray m, lt x zs[m] := by
          intro x hx
          rcases hle x hx with e | e
          · exfalso
            have hm0 : 0 < m := by
              rcases Nat.eq_zero_or_pos m with h0 | h0
              · subst h0; simp [compactUpTo] at hx
              · exact h0
            have hk2 : zs[m] ≠ zs[m - 1] := by
              intro e2
              have := keeps_neg (d := zs.toArray) hm0 (by
                rw [hd]
                have h9 : zs.toArray[m - 1]! = zs[m - 1] := by simp [show m - 1 < zs.length by omega]
                rw [h9]; exact e2)
              rw [this] at hk; cases hk
            rcases h3 x hx zs[m - 1] (List.getElem?_eq_getElem (by omega)) with e3 | e3
            · exact hk2 (e.symm.trans e3)
            · subst e
              exact List.pairwise_iff_getElem.1 hs (m - 1) m (by omega) (by omega) (by omega) e3
          · exact e
        refine ⟨?_, fun x => ?_, fun x hx y hy => ?_⟩
        · rw [List.pairwise_append]
          refine ⟨h1, List.pairwise_singleton _ _, fun x hx y hy => ?_⟩
          obtain rfl : y = zs[m] := by rw [hd] at hy; simpa using hy
          exact hne x hx
        · rw [htake, List.mem_append, List.mem_append, h2, hd]
        · rw [Nat.add_sub_cancel, hget] at hy
          obtain rfl := Option.some.inj hy
          rcases List.mem_append.1 hx with hx | hx
          · exact .inr (hne x hx)
          · left; rw [hd] at hx; simpa using hx
      | false =>
        rw [if_neg (by simp), List.append_nil]
        have hm0 : 0 < m := by
          rcases Nat.eq_zero_or_pos m with h0 | h0
          · subst h0
            rw [keeps_lt_one _ 0 (by omega)] at hk; cases hk
          · exact h0
        have he : zs[m] = zs[m - 1] := by
          apply Decidable.byContradiction
          intro hne
          have := keeps_pos (d := zs.toArray) (m := m) (by
            rw [hd]
            have h9 : zs.toArray[m - 1]! = zs[m - 1] := by simp [show m - 1 < zs.length by omega]
            rw [h9]; exact hne)
          rw [this] at hk; cases hk
        refine ⟨h1, fun x => ?_, fun x hx y hy => ?_⟩
        · rw [htake, List.mem_append, h2]
          constructor
          · exact .inl
          · rintro (hx | hx)
            · exact hx
            · obtain rfl : x = zs[m] := by simpa using hx
              rw [he]
              exact List.mem_take_iff_getElem.2 ⟨m - 1, by omega, rfl⟩
        · rw [Nat.add_sub_cancel, hget] at hy
          obtain rfl := Option.some.inj hy
          exact hle x hx
  obtain ⟨h1, h2, _⟩ := key zs.length (Nat.le_refl _)
  refine ⟨h1, fun x => ?_⟩
  have := h2 x
  rw [List.take_length] at this
  exact this

/-- One more is put into a strict list, if it is not there. -/
def insU {α : Type} [DecidableEq α] (lt : α → α → Prop) [DecidableRel lt] : List α → α → List α
  | [], t => [t]
  | a :: l, t => if lt a t then a :: insU lt l t else if a = t then a :: l else t :: a :: l
theorem insU_mem {α : Type} [DecidableEq α] (lt : α → α → Prop) [DecidableRel lt] : ∀ (l : List α) (t x : α), x ∈ insU lt l t ↔ x ∈ l ∨ x = t := by
  intro l
  induction l with
  | nil => intro t x; simp [insU]
  | cons a l ih =>
    intro t x
    unfold insU
    split
    · rw [List.mem_cons, ih, List.mem_cons, or_assoc]
    · split
      · rename_i e
        subst e
        constructor
        · exact .inl
        · rintro (h | rfl)
          · exact h
          · exact List.mem_cons_self
      · simp only [List.mem_cons]
        constructor
        · rintro (h | h | h)
          · exact .inr h
          · exact .inl (.inl h)
          · exact .inl (.inr h)
        · rintro ((h | h) | h)
          · exact .inr (.inl h)
          · exact .inr (.inr h)
          · exact .inl h
theorem insU_strict {α : Type} [DecidableEq α] {lt : α → α → Prop} [DecidableRel lt] (h : LO lt) : ∀ (l : List α) (t : α), l.Pairwise lt → (insU lt l t).Pairwise lt := by
  intro l
  induction l with
  | nil => intro t _; simp [insU]
  | cons a l ih =>
    intro t hl
    rw [List.pairwise_cons] at hl
    unfold insU
    split
    · rename_i hat
      rw [List.pairwise_cons]
      refine ⟨fun x hx => ?_, ih t hl.2⟩
      rcases (insU_mem lt l t x).1 hx with hx | rfl
      · exact hl.1 x hx
      · exact hat
    · split
      · rw [List.pairwise_cons]; exact hl
      · rename_i hn hne
        have hta : lt t a := by
          apply Decidable.byContradiction
          intro hc
          exact hne (h.tri _ _ hn hc)
        rw [List.pairwise_cons, List.pairwise_cons]
        refine ⟨fun x hx => ?_, hl⟩
        rcases List.mem_cons.1 hx with rfl | hx
        · exact hta
        · exact h.tr _ _ _ hta (hl.1 x hx)
theorem insU_at {α : Type} [DecidableEq α] (lt : α → α → Prop) [DecidableRel lt] : ∀ (l : List α) (t : α) (k : Nat), k ≤ l.length → (∀ j x, j < k → l[j]? = some x → lt x t) → (∀ x, l[k]? = some x → ¬ lt x t) →
    insU lt l t = if l[k]? = some t then l else l.take k ++ t :: l.drop k := by
  intro l
  induction l with
  | nil => intro t k hk _ _; obtain rfl : k = 0 := by simpa using hk
           simp [insU]
  | cons a l ih =>
    intro t k hk h1 h2
    cases k with
    | zero =>
      have h3 := h2 a rfl
      unfold insU
      rw [if_neg h3]
      by_cases he : a = t
      · subst he; simp
      · rw [if_neg he]; simp [he]
    | succ k =>
      have h3 := h1 0 a (by omega) rfl
      unfold insU
      rw [if_pos h3, ih t k (by simpa using hk) (fun j x hj hx => h1 (j + 1) x (by omega) (by simpa using hx)) (fun x hx => h2 x (by simpa using hx))]
      simp only [List.getElem?_cons_succ, List.take_succ_cons, List.drop_succ_cons]
      split
      · rfl
      · rfl
/-- All of a list put in, one behind the other. -/
def allU {α : Type} [DecidableEq α] (lt : α → α → Prop) [DecidableRel lt] (T : List α) : List α := T.foldl (insU lt) []
theorem allU_fold {α : Type} [DecidableEq α] {lt : α → α → Prop} [DecidableRel lt] (h : LO lt) : ∀ (T l : List α), l.Pairwise lt → (T.foldl (insU lt) l).Pairwise lt ∧ ∀ x, x ∈ T.foldl (insU lt) l ↔ x ∈ l ∨ x ∈ T := by
  intro T
  induction T with
  | nil => intro l hl; exact ⟨hl, fun x => by simp⟩
  | cons t T ih =>
    intro l hl
    obtain ⟨h1, h2⟩ := ih (insU lt l t) (insU_strict h l t hl)
    refine ⟨h1, fun x => ?_⟩
    rw [List.foldl_cons, h2, insU_mem, List.mem_cons, or_assoc]
theorem allU_succ {α : Type} [DecidableEq α] (lt : α → α → Prop) [DecidableRel lt] (T : List α) (k : Nat) (t : α) (h : T[k]? = some t) : allU lt (T.take (k + 1)) = insU lt (allU lt (T.take k)) t := by
  have e : T.take (k + 1) = T.take k ++ [t] := by rw [List.take_add_one, h]; rfl
  unfold allU
  rw [e, List.foldl_append]; rfl
theorem compact_allU {α : Type} [Inhabited α] [DecidableEq α] {lt : α → α → Prop} [DecidableRel lt] (h : LO lt) (zs T : List α) (hs : zs.Pairwise fun a b => ¬ lt b a) (hp : zs.Perm T) : compact zs = allU lt T := by
  obtain ⟨h1, h2⟩ := compact_strict h zs hs
  obtain ⟨h3, h4⟩ := allU_fold h T [] List.Pairwise.nil
  refine strict_unique h _ _ h1 h3 fun x => ?_
  rw [h2, hp.mem_iff]
  unfold allU at *
  rw [h4]
  simp
end Go.Proofs.YtmhkcicjbgifnaaGreat
