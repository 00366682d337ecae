/- Plain theory: all clauses, laid one behind the other in the order of their lengths. No program is named here. -/
import Derived.Test.YtmhkcicjbgifnaaGreatMPrimeMath

namespace Go.Proofs.YtmhkcicjbgifnaaGreat
open Go.RowKit Go.Lib
set_option linter.unusedVariables false
set_option linter.unusedSimpArgs false

/-- The first literal that may follow a clause. -/
def nextL (c : List Int) : Int := match c.getLast? with | some y => y / 2 * 2 + 2 | none => 0
structure BfsSt (C : List (List Int)) (i : Nat) (l0 : Int) : Prop where
  cl : ∀ x ∈ C, clauseB x = true
  nil : [] ∈ C
  nd : C.Nodup
  pw : C.Pairwise fun x y => x.length ≤ y.length
  cap : ∀ x ∈ C, ∀ c, C[i]? = some c → x.length ≤ c.length + 1
  done : ∀ j c l, C[j]? = some c → (j < i ∨ (j = i ∧ l < l0)) → clauseB (c ++ [l]) = true → c ++ [l] ∈ C
  orig : ∀ x ∈ C, ∀ c l, x = c ++ [l] → c ∈ C.take i ∨ (C[i]? = some c ∧ l < l0)
theorem snoc_next {c : List Int} {l : Int} : clauseB (c ++ [l]) = true ↔ clauseB c = true ∧ nextL c ≤ l ∧ l ≤ 11 := by
  rw [clause_snoc]
  unfold nextL
  constructor
  · rintro ⟨h1, h2, h3, h4⟩
    refine ⟨h1, ?_, h3⟩
    split
    · rename_i y hy
      have := h4 y hy
      omega
    · exact h2
  · rintro ⟨h1, h2, h3⟩
    cases hy : c.getLast? with
    | none => rw [hy] at h2; exact ⟨h1, h2, h3, fun y h => by cases h⟩
    | some y =>
      rw [hy] at h2
      have h5 := clause_in h1 (List.mem_of_getLast? hy)
      simp only at h2
      exact ⟨h1, by omega, h3, fun z hz => by obtain rfl := Option.some.inj hz; omega⟩
theorem nextL_bounds {c : List Int} (h : clauseB c = true) : 0 ≤ nextL c ∧ nextL c ≤ 12 := by
  unfold nextL
  cases hy : c.getLast? with
  | none => simp
  | some y => have := clause_in h (List.mem_of_getLast? hy); simp only; omega
theorem BfsSt.start : BfsSt [[]] 0 0 where
  cl := fun x hx => by obtain rfl : x = [] := by simpa using hx
                       exact clause_nil
  nil := by simp
  nd := by simp
  pw := by simp
  cap := fun x hx c hc => by obtain rfl : x = [] := by simpa using hx
                             simp
  done := fun j c l hj h hc => by
    rcases h with h | ⟨rfl, h⟩
    · omega
    · have := (snoc_next.1 hc).2.1
      obtain rfl : c = [] := by simpa using hj.symm
      simp [nextL] at this
      omega
  orig := fun x hx c l e => by
    obtain rfl : x = [] := by simpa using hx
    simp at e
theorem BfsSt.enter {C : List (List Int)} {i : Nat} {c : List Int} (h : BfsSt C i 0) (hc : C[i]? = some c) : BfsSt C i (nextL c) where
  cl := h.cl
  nil := h.nil
  nd := h.nd
  pw := h.pw
  cap := h.cap
  done := fun j d l hj hl hd => by
    rcases hl with hl | ⟨rfl, hl⟩
    · exact h.done j d l hj (.inl hl) hd
    · rw [hc] at hj
      obtain rfl := Option.some.inj hj
      have := (snoc_next.1 hd).2.1
      omega
  orig := fun x hx d l e => by
    rcases h.orig x hx d l e with h1 | ⟨h1, h2⟩
    · exact .inl h1
    · exact .inr ⟨h1, by have := (clause_in (h.cl x hx) (x := l) (by rw [e]; simp)); omega⟩
theorem BfsSt.fresh {C : List (List Int)} {i : Nat} {c : List Int} {l0 : Int} (h : BfsSt C i l0) (hc : C[i]? = some c) : c ++ [l0] ∉ C := by
  intro hm
  rcases h.orig _ hm c l0 rfl with h1 | ⟨_, h2⟩
  · obtain ⟨j, hj⟩ := List.getElem?_of_mem h1
    have hji : j < i := by
      have := (List.getElem?_eq_some_iff.1 hj).1
      simp at this
      omega
    rw [List.getElem?_take_of_lt hji] at hj
    have hnd := h.nd
    unfold List.Nodup at hnd
    rw [List.pairwise_iff_getElem] at hnd
    obtain ⟨li, ei⟩ := List.getElem?_eq_some_iff.1 hc
    obtain ⟨lj, ej⟩ := List.getElem?_eq_some_iff.1 hj
    exact hnd j i lj li hji (ej.trans ei.symm)
  · omega
theorem BfsSt.add {C : List (List Int)} {i : Nat} {c : List Int} {l0 : Int} (h : BfsSt C i l0) (hc : C[i]? = some c) (hl : nextL c ≤ l0) (h11 : l0 ≤ 11) : BfsSt (C ++ [c ++ [l0]]) i (l0 + 1) := by
  have hi := (List.getElem?_eq_some_iff.1 hc).1
  have hcl : clauseB (c ++ [l0]) = true := snoc_next.2 ⟨h.cl c (List.mem_of_getElem? hc), hl, h11⟩
  have hfr := h.fresh hc
  have hci : (C ++ [c ++ [l0]])[i]? = some c := by rw [List.getElem?_append_left hi]; exact hc
  refine ⟨fun x hx => ?_, List.mem_append_left _ h.nil, ?_, ?_, fun x hx d hd => ?_, fun j d l hj hjl hd => ?_, fun x hx d l e => ?_⟩
  · rcases List.mem_append.1 hx with hx | hx
    · exact h.cl x hx
    · obtain rfl : x = c ++ [l0] := by simpa using hx
      exact hcl
  · rw [List.nodup_append]
    refine ⟨h.nd, by simp, fun x hx y hy e => ?_⟩
    obtain rfl : y = c ++ [l0] := by simpa using hy
    exact hfr (e ▸ hx)
  · rw [List.pairwise_append]
    refine ⟨h.pw, by simp, fun x hx y hy => ?_⟩
    obtain rfl : y = c ++ [l0] := by simpa using hy
    have := h.cap x hx c hc
    simpa using this
  · rw [hci] at hd
    obtain rfl := Option.some.inj hd
    rcases List.mem_append.1 hx with hx | hx
    · exact h.cap x hx _ hc
    · obtain rfl : x = c ++ [l0] := by simpa using hx
      simp
  · have hjle : j < C.length := by omega
    rw [List.getElem?_append_left hjle] at hj
    rcases hjl with hjl | ⟨rfl, hjl⟩
    · exact List.mem_append_left _ (h.done j d l hj (.inl hjl) hd)
    · rw [hc] at hj
      obtain rfl := Option.some.inj hj
      by_cases e : l = l0
      · subst e
        exact List.mem_append_right _ (by simp)
      · exact List.mem_append_left _ (h.done j c l hc (.inr ⟨rfl, by omega⟩) hd)
  · rw [List.take_append_of_le_length (Nat.le_of_lt hi), hci]
    rcases List.mem_append.1 hx with hx | hx
    · rcases h.orig x hx d l e with h1 | ⟨h1, h2⟩
      · exact .inl h1
      · rw [hc] at h1
        exact .inr ⟨h1, by omega⟩
    · obtain rfl : x = c ++ [l0] := by simpa using hx
      obtain ⟨h1, h2⟩ := List.append_inj' e rfl
      obtain rfl : l0 = l := by simpa using h2
      subst h1
      exact .inr ⟨rfl, by omega⟩
theorem BfsSt.next {C : List (List Int)} {i : Nat} {c : List Int} {l0 : Int} (h : BfsSt C i l0) (hc : C[i]? = some c) (hl : 12 ≤ l0) : BfsSt C (i + 1) 0 := by
  refine ⟨h.cl, h.nil, h.nd, h.pw, fun x hx d hd => ?_, fun j d l hj hjl hd => ?_, fun x hx d l e => ?_⟩
  · have h1 := h.cap x hx c hc
    have h2 := h.pw
    rw [List.pairwise_iff_getElem] at h2
    obtain ⟨li, ei⟩ := List.getElem?_eq_some_iff.1 hc
    obtain ⟨lj, ej⟩ := List.getElem?_eq_some_iff.1 hd
    have h3 := h2 i (i + 1) li lj (Nat.lt_succ_self i)
    rw [ei, ej] at h3
    omega
  · rcases hjl with hjl | ⟨rfl, hjl⟩
    · rcases Nat.lt_or_eq_of_le (Nat.le_of_lt_succ hjl) with h1 | rfl
      · exact h.done j d l hj (.inl h1) hd
      · exact h.done j d l hj (.inr ⟨rfl, by have := (snoc_next.1 hd).2.2; omega⟩) hd
    · have := (snoc_next.1 hd)
      have h5 := nextL_bounds this.1
      omega
  · rw [List.take_add_one, hc]
    rcases h.orig x hx d l e with h1 | ⟨h1, h2⟩
    · exact .inl (List.mem_append_left _ h1)
    · rw [hc] at h1
      obtain rfl := Option.some.inj h1
      exact .inl (List.mem_append_right _ (by simp))
theorem BfsSt.len {C : List (List Int)} {i : Nat} {l0 : Int} (h : BfsSt C i l0) : C.length ≤ 4096 := clauses_len h.nd h.cl
theorem BfsSt.finish {C : List (List Int)} {i : Nat} (h : BfsSt C i 0) (hi : C.length ≤ i) : AllCl C := by
  refine ⟨h.cl, fun x hx => ?_, h.pw⟩
  have key : ∀ (n : Nat) (x : List Int), x.length = n → clauseB x = true → x ∈ C := by
    intro n
    induction n with
    | zero =>
      intro x hn _
      obtain rfl : x = [] := List.length_eq_zero_iff.1 hn
      exact h.nil
    | succ n ih =>
      intro x hn hx
      rcases List.eq_nil_or_concat x with rfl | ⟨d, y, rfl⟩
      · simp at hn
      · rw [List.concat_eq_append] at hn hx ⊢
        have hd := clause_sub (List.sublist_append_left d [y]) hx
        obtain ⟨j, hj⟩ := List.getElem?_of_mem (ih d (by simpa using hn) hd)
        have := (List.getElem?_eq_some_iff.1 hj).1
        exact h.done j d y hj (.inl (by omega)) hx
  exact key x.length x rfl hx
end Go.Proofs.YtmhkcicjbgifnaaGreat
