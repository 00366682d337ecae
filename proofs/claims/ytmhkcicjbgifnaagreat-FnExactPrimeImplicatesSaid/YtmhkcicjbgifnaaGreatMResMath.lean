/- Plain theory: the resolvent of two clauses. No program is named here. -/
import Derived.Test.YtmhkcicjbgifnaaGreatMOrd
import Derived.Test.YtmhkcicjbgifnaaGreatMAppendNilM
import Derived.Test.YtmhkcicjbgifnaaGreatMListFns

namespace Go.Proofs.YtmhkcicjbgifnaaGreat
open Go.RowKit Go.Lib

theorem lo_int : LO (fun x y : Int => x < y) where
  irr := fun a => Int.lt_irrefl a
  tr := fun _ _ _ h1 h2 => Int.lt_trans h1 h2
  tri := fun _ _ h1 h2 => by omega
theorem clause_in {xs : List Int} (h : clauseB xs = true) {x : Int} (hx : x ∈ xs) : 0 ≤ x ∧ x ≤ 11 := by
  obtain ⟨k, hk⟩ := List.getElem?_of_mem hx
  exact okAt_in hk (clause_iff.1 h k (List.getElem?_eq_some_iff.1 hk).1)
theorem clause_next {xs : List Int} (h : clauseB xs = true) {j : Nat} {x y : Int} (hx : xs[j + 1]? = some x) (hy : xs[j]? = some y) : y / 2 < x / 2 := by
  have h1 := clause_iff.1 h (j + 1) (List.getElem?_eq_some_iff.1 hx).1
  rw [okAt_succ hx hy, Bool.and_eq_true, decide_eq_true_eq] at h1
  exact h1.2
theorem clause_half {xs : List Int} (h : clauseB xs = true) : ∀ (j i : Nat) (x y : Int), i < j → xs[i]? = some x → xs[j]? = some y → x / 2 < y / 2 := by
  intro j
  induction j with
  | zero => intro i x y hi; omega
  | succ j ih =>
    intro i x y hi hx hy
    have hl := (List.getElem?_eq_some_iff.1 hy).1
    have hz : xs[j]? = some xs[j] := List.getElem?_eq_getElem (by omega)
    have h1 := clause_next h hy hz
    rcases Nat.lt_or_ge i j with h2 | h2
    · have := ih i x _ h2 hx hz; omega
    · obtain rfl : i = j := by omega
      rw [hx] at hz
      rw [← Option.some.inj hz] at h1
      exact h1
theorem clause_len {xs : List Int} (h : clauseB xs = true) : xs.length ≤ 12 := by
  have key : ∀ k, k < xs.length → ∀ x, xs[k]? = some x → (k : Int) ≤ x / 2 := by
    intro k
    induction k with
    | zero => intro _ x hx; have := clause_in h (List.mem_of_getElem? hx); omega
    | succ k ih =>
      intro hk x hx
      have hz : xs[k]? = some xs[k] := List.getElem?_eq_getElem (by omega)
      have h1 := ih (by omega) _ hz
      have h2 := clause_next h hx hz
      omega
  rcases Nat.lt_or_ge 12 xs.length with h1 | h1
  · exfalso
    have hz : xs[12]? = some xs[12] := List.getElem?_eq_getElem h1
    have h2 := key 12 h1 _ hz
    have h3 := clause_in h (List.mem_of_getElem? hz)
    omega
  · exact h1
theorem clause_same {xs : List Int} (h : clauseB xs = true) {x y : Int} (hx : x ∈ xs) (hy : y ∈ xs) (he : x / 2 = y / 2) : x = y := by
  obtain ⟨i, hi⟩ := List.getElem?_of_mem hx
  obtain ⟨j, hj⟩ := List.getElem?_of_mem hy
  rcases Nat.lt_trichotomy i j with h1 | h1 | h1
  · have := clause_half h j i x y h1 hi hj; omega
  · subst h1; rw [hi] at hj; exact Option.some.inj hj
  · have := clause_half h i j y x h1 hj hi; omega

theorem drop_mem {c : List Int} (hc : clauseB c = true) {i : Nat} {a x : Int} (ha : c[i]? = some a) : x ∈ c.take i ++ c.drop (i + 1) ↔ x ∈ c ∧ x / 2 ≠ a / 2 := by
  rw [List.mem_append]
  constructor
  · rintro (hx | hx)
    · obtain ⟨j, hj⟩ := List.getElem?_of_mem hx
      rw [List.getElem?_take] at hj
      split at hj
      · rename_i hji
        have := clause_half hc i j x a hji hj ha
        exact ⟨List.mem_of_getElem? hj, by omega⟩
      · cases hj
    · obtain ⟨j, hj⟩ := List.getElem?_of_mem hx
      rw [List.getElem?_drop] at hj
      have := clause_half hc (i + 1 + j) i a x (by omega) ha hj
      exact ⟨List.mem_of_getElem? hj, by omega⟩
  · rintro ⟨hx, hne⟩
    obtain ⟨j, hj⟩ := List.getElem?_of_mem hx
    rcases Nat.lt_trichotomy j i with h1 | h1 | h1
    · left
      exact List.mem_of_getElem? (i := j) (by rw [List.getElem?_take, if_pos h1]; exact hj)
    · subst h1; rw [ha] at hj; cases hj; exact absurd rfl hne
    · right
      exact List.mem_of_getElem? (i := j - (i + 1)) (by rw [List.getElem?_drop, show i + 1 + (j - (i + 1)) = j by omega]; exact hj)

def lits12 : List Int := (List.range 12).map fun (i : Nat) => (i : Int)
def resL (c d : List Int) (v : Int) : List Int := lits12.filter fun l => decide (l / 2 ≠ v) && (decide (l ∈ c) || decide (l ∈ d))
theorem lits_mem {x : Int} : x ∈ lits12 ↔ 0 ≤ x ∧ x ≤ 11 := by
  unfold lits12
  rw [List.mem_map]
  constructor
  · rintro ⟨i, hi, rfl⟩
    have := List.mem_range.1 hi
    omega
  · intro h
    exact ⟨x.toNat, List.mem_range.2 (by omega), by omega⟩
theorem resL_mem {c d : List Int} {v x : Int} : x ∈ resL c d v ↔ (0 ≤ x ∧ x ≤ 11) ∧ x / 2 ≠ v ∧ (x ∈ c ∨ x ∈ d) := by
  unfold resL
  rw [List.mem_filter, lits_mem, Bool.and_eq_true, Bool.or_eq_true, decide_eq_true_eq, decide_eq_true_eq, decide_eq_true_eq]
theorem resL_strict (c d : List Int) (v : Int) : (resL c d v).Pairwise fun x y => x < y := by
  have h : lits12.Pairwise fun x y => x < y := by
    unfold lits12
    rw [List.pairwise_map]
    exact List.pairwise_lt_range.imp fun h => by omega
  exact h.filter _
theorem resL_len (c d : List Int) (v : Int) : (resL c d v).length ≤ 12 := by
  have := List.length_filter_le (fun l => decide (l / 2 ≠ v) && (decide (l ∈ c) || decide (l ∈ d))) lits12
  have h2 : lits12.length = 12 := by simp [lits12]
  unfold resL
  omega
abbrev sortI (xs : List Int) : List Int := xs.mergeSort fun x y => decide (x ≤ y)
theorem sortI_ok (T : List Int) : (sortI T).Pairwise (fun a b => ¬ b < a) ∧ (sortI T).Perm T := by
  refine ⟨?_, List.mergeSort_perm T _⟩
  have h := List.pairwise_mergeSort (le := fun x y : Int => decide (x ≤ y)) (fun a b c h1 h2 => by
    simp only [decide_eq_true_eq] at *
    omega) (fun a b => by
    simp only [Bool.or_eq_true, decide_eq_true_eq]
    omega) T
  exact h.imp fun {a b} hab => by
    simp only [decide_eq_true_eq] at hab
    omega
/-- What the program sorts and compacts is the resolvent. -/
theorem res_sorted {c d : List Int} (hc : clauseB c = true) (hd : clauseB d = true) {i j : Nat} {v : Int} (hi : c[i]? = some (2 * v)) (hj : d[j]? = some (2 * v + 1)) :
    compact (sortI ((c.take i ++ c.drop (i + 1)) ++ (d.take j ++ d.drop (j + 1)))) = resL c d v := by
  obtain ⟨h1, h2⟩ := sortI_ok ((c.take i ++ c.drop (i + 1)) ++ (d.take j ++ d.drop (j + 1)))
  obtain ⟨h3, h4⟩ := compact_strict lo_int _ h1
  refine strict_unique lo_int _ _ h3 (resL_strict c d v) fun x => ?_
  rw [h4, h2.mem_iff, List.mem_append, drop_mem hc hi, drop_mem hd hj, resL_mem]
  constructor
  · rintro (⟨hx, hn⟩ | ⟨hx, hn⟩)
    · exact ⟨clause_in hc hx, by omega, .inl hx⟩
    · exact ⟨clause_in hd hx, by omega, .inr hx⟩
  · rintro ⟨_, hn, hx | hx⟩
    · exact .inl ⟨hx, by omega⟩
    · exact .inr ⟨hx, by omega⟩
def resOk (c d : List Int) (v : Int) : Bool := decide (2 * v ∈ c) && decide (2 * v + 1 ∈ d) && clauseB (resL c d v)
theorem one_ok {c d : List Int} {v u : Int} (hc : clauseB c = true) (hd : clauseB d = true) (hv : resOk c d v = true) (hu : resOk c d u = true) : v = u := by
  unfold resOk at hv hu
  simp only [Bool.and_eq_true, decide_eq_true_eq] at hv hu
  apply Decidable.byContradiction
  intro hne
  have m1 : 2 * u ∈ resL c d v := resL_mem.2 ⟨clause_in hc hu.1.1, by omega, .inl hu.1.1⟩
  have m2 : 2 * u + 1 ∈ resL c d v := resL_mem.2 ⟨clause_in hd hu.1.2, by omega, .inr hu.1.2⟩
  have := clause_same hv.2 m1 m2 (by omega)
  omega
/-- The resolvents on the variables below k. -/
def rvL (c d : List Int) (k : Nat) : List (List Int) := ((List.range k).filter fun (v : Nat) => resOk c d (v : Int)).map fun (v : Nat) => resL c d (v : Int)
theorem rvL_succ (c d : List Int) (k : Nat) : rvL c d (k + 1) = rvL c d k ++ (if resOk c d (k : Int) then [resL c d (k : Int)] else []) := by
  unfold rvL
  rw [List.range_succ, List.filter_append, List.map_append]
  congr 1
  by_cases h : resOk c d (k : Int) = true
  · simp [h]
  · simp [h]
theorem rvL_one {c d : List Int} (hc : clauseB c = true) (hd : clauseB d = true) (k : Nat) : (rvL c d k).length ≤ 1 := by
  unfold rvL
  rw [List.length_map]
  have hnd : ((List.range k).filter fun (v : Nat) => resOk c d (v : Int)).Pairwise fun a b => a < b := List.pairwise_lt_range.filter _
  match hf : ((List.range k).filter fun (v : Nat) => resOk c d (v : Int)), hnd with
  | [], _ => simp
  | [_], _ => simp
  | a :: b :: l, hnd =>
    exfalso
    have ha : a ∈ (List.range k).filter fun (v : Nat) => resOk c d (v : Int) := by rw [hf]; simp
    have hb : b ∈ (List.range k).filter fun (v : Nat) => resOk c d (v : Int) := by rw [hf]; simp
    rw [List.mem_filter] at ha hb
    have := one_ok hc hd ha.2 hb.2
    have h2 := (List.pairwise_cons.1 hnd).1 b (by simp)
    omega
theorem rvL_mem {c d : List Int} {k : Nat} {r : List Int} (h : r ∈ rvL c d k) : clauseB r = true ∧ r.length ≤ 12 := by
  unfold rvL at h
  rw [List.mem_map] at h
  obtain ⟨v, hv, rfl⟩ := h
  rw [List.mem_filter] at hv
  have h2 := hv.2
  unfold resOk at h2
  rw [Bool.and_eq_true] at h2
  exact ⟨h2.2, resL_len _ _ _⟩
def rsCode (c d : List Int) : Int := if clauseB c && clauseB d then 0 else 1
def rsR (c d : List Int) : List (List Int) := if clauseB c && clauseB d then rvL c d 6 else []
end Go.Proofs.YtmhkcicjbgifnaaGreat
