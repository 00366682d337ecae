/- Plain theory of truth values: the value of a formula's tree in a row, and the sets of rows as numbers of 64 digits. No program is named here. -/
import Derived.Test.YtmhkcicjbgifnaaGreatMPlain
import Derived.Test.YtmhkcicjbgifnaaGreatMLists
import Derived.Test.YtmhkcicjbgifnaaGreatMMaskOfM

namespace Go.Proofs.YtmhkcicjbgifnaaGreat
open Go.RowKit Go.Deep

/-- The value of a tree in row r. -/
def valT : Tr → Nat → Bool
  | .nil, _ => false
  | .node _ _ n l r, i => if n.1 = 0 then i.testBit n.2.toNat else if n.1 = 1 then false else if n.1 = 2 then valT l i && valT r i else if n.1 = 3 then valT l i || valT r i else !valT l i || valT r i

/-- A tree without modalities whose nodes are good. -/
def plainT (t : Tr) : Prop := ∀ n ∈ flat t, 0 ≤ n.1 ∧ n.1 ≤ 4 ∧ 0 ≤ n.2 ∧ n.2 ≤ 5

theorem plain_tree {ns : List Nd} (h : formB ns = true) (h2 : plainB ns = true) : okT (treeOf ns) ∧ flat (treeOf ns) = ns ∧ plainT (treeOf ns) ∧ ns.length ≤ 40 := by
  obtain ⟨h3, h4⟩ := treeOf_spec h
  simp only [formB, Bool.and_eq_true, decide_eq_true_eq] at h
  refine ⟨h3, h4, ?_, h.1.1.2⟩
  intro n hn
  rw [h4] at hn
  have h5 := List.all_eq_true.1 h.1.2 n hn
  unfold plainB at h2
  have h6 := List.all_eq_true.1 h2 n hn
  unfold nodeB at h5
  unfold modalB at h6
  split at h5
  · simp at h5; omega
  · simp at h5 h6; omega

/-- The rows below n at which p holds, as a number. -/
def rowsOf (p : Nat → Bool) : Nat → Nat
  | 0 => 0
  | n + 1 => if p n then rowsOf p n ||| 2 ^ n else rowsOf p n

theorem rowsOf_bit (p : Nat → Bool) (n i : Nat) : (rowsOf p n).testBit i = (decide (i < n) && p i) := by
  induction n with
  | zero => simp [rowsOf]
  | succ n ih =>
    simp only [rowsOf]
    by_cases hi : i = n
    · subst hi
      split
      · rename_i h; rw [Nat.testBit_or, Nat.testBit_two_pow_self, h]; simp
      · rename_i h; rw [ih]; simp [h]
    · have e : decide (i < n + 1) = decide (i < n) := by rw [decide_eq_decide]; omega
      split
      · rw [Nat.testBit_or, ih, Nat.testBit_two_pow_of_ne (fun h => hi h.symm), e]; simp
      · rw [ih, e]

theorem rowsOf_lt (p : Nat → Bool) (n : Nat) : rowsOf p n < 2 ^ n := by
  apply Nat.lt_pow_two_of_testBit
  intro i hi
  rw [rowsOf_bit]
  simp; omega

theorem rows64_lt (p : Nat → Bool) : rowsOf p 64 < 18446744073709551616 := rowsOf_lt p 64

theorem rowsOf_congr {p q : Nat → Bool} {n : Nat} (h : ∀ i, i < n → p i = q i) : rowsOf p n = rowsOf q n := by
  apply Nat.eq_of_testBit_eq
  intro i
  rw [rowsOf_bit, rowsOf_bit]
  by_cases hi : i < n
  · rw [h i hi]
  · simp [hi]

theorem rows_and (p q : Nat → Bool) (n : Nat) : rowsOf p n &&& rowsOf q n = rowsOf (fun i => p i && q i) n := by
  apply Nat.eq_of_testBit_eq
  intro i
  rw [Nat.testBit_and, rowsOf_bit, rowsOf_bit, rowsOf_bit]
  cases decide (i < n) <;> simp

theorem rows_or (p q : Nat → Bool) (n : Nat) : rowsOf p n ||| rowsOf q n = rowsOf (fun i => p i || q i) n := by
  apply Nat.eq_of_testBit_eq
  intro i
  rw [Nat.testBit_or, rowsOf_bit, rowsOf_bit, rowsOf_bit]
  cases decide (i < n) <;> simp

theorem rows_not (p : Nat → Bool) : 18446744073709551615 - rowsOf p 64 = rowsOf (fun i => !p i) 64 := by
  apply Nat.eq_of_testBit_eq
  intro i
  have h := Nat.testBit_two_pow_sub_succ (x := rowsOf p 64) (n := 64) (rowsOf_lt p 64) i
  rw [show 2 ^ 64 - (rowsOf p 64 + 1) = 18446744073709551615 - rowsOf p 64 by omega] at h
  rw [h, rowsOf_bit, rowsOf_bit]
  cases decide (i < 64) <;> simp

theorem rows_none (n : Nat) : rowsOf (fun _ => false) n = 0 := by
  apply Nat.eq_of_testBit_eq
  intro i
  rw [rowsOf_bit]; simp

theorem rows_every : rowsOf (fun _ => true) 64 = 18446744073709551615 := by
  have := rows_not (fun _ => false)
  rw [rows_none] at this
  simpa using this.symm

theorem rows_all (p : Nat → Bool) : (rowsOf p 64 = 18446744073709551615) ↔ (List.range 64).all p = true := by
  constructor
  · intro h
    rw [List.all_eq_true]
    intro i hi
    have h2 := congrArg (·.testBit i) (h.trans rows_every.symm)
    simp only [rowsOf_bit] at h2
    simpa [show i < 64 by simpa using hi] using h2
  · intro h
    rw [← rows_every]
    apply rowsOf_congr
    intro i hi
    exact List.all_eq_true.1 h i (by simpa using hi)

theorem rows_empty (p : Nat → Bool) : (rowsOf p 64 = 0) ↔ (List.range 64).all (fun i => !p i) = true := by
  constructor
  · intro h
    rw [List.all_eq_true]
    intro i hi
    have h2 := congrArg (·.testBit i) h
    simp only [rowsOf_bit] at h2
    simpa [show i < 64 by simpa using hi] using h2
  · intro h
    rw [← rows_none 64]
    apply rowsOf_congr
    intro i hi
    have := List.all_eq_true.1 h i (by simpa using hi)
    simpa using this

theorem plainT_left {b o : Nat} {n : Nd} {l r : Tr} (h : plainT (.node b o n l r)) : plainT l := fun m hm => h m (by simp [flat, hm])
theorem plainT_right {b o : Nat} {n : Nd} {l r : Tr} (h : plainT (.node b o n l r)) : plainT r := fun m hm => h m (by simp [flat, hm])
theorem plainT_head {b o : Nat} {n : Nd} {l r : Tr} (h : plainT (.node b o n l r)) : 0 ≤ n.1 ∧ n.1 ≤ 4 ∧ 0 ≤ n.2 ∧ n.2 ≤ 5 := h n (by simp [flat])

/-- A plain tree's cases. -/
theorem plain_cases {b o : Nat} {x y : Int} {l r : Tr} (ht : okT (.node b o (x, y) l r)) (h : plainT (.node b o (x, y) l r)) :
    (x = 0 ∧ l = .nil ∧ r = .nil ∧ 0 ≤ y ∧ y ≤ 5) ∨ (x = 1 ∧ l = .nil ∧ r = .nil) ∨ ((x = 2 ∨ x = 3 ∨ x = 4) ∧ okT l ∧ okT r) := by
  obtain ⟨h1, h2, h3, h4⟩ := plainT_head h
  simp only at h1 h2 h3 h4
  have hx : x = 0 ∨ x = 1 ∨ x = 2 ∨ x = 3 ∨ x = 4 := by omega
  rcases hx with rfl | rfl | rfl | rfl | rfl
  · rcases ht with ⟨_, a, b⟩ | ⟨a, _⟩ | ⟨a, _⟩
    · exact .inl ⟨rfl, a, b, h3, h4⟩
    · simp [ar] at a
    · simp [ar] at a
  · rcases ht with ⟨_, a, b⟩ | ⟨a, _⟩ | ⟨a, _⟩
    · exact .inr (.inl ⟨rfl, a, b⟩)
    · simp [ar] at a
    · simp [ar] at a
  all_goals
    rcases ht with ⟨a, _⟩ | ⟨a, _⟩ | ⟨_, a, b⟩
    · simp [ar] at a
    · simp [ar] at a
    · exact .inr (.inr ⟨by omega, a, b⟩)

def tabL (p : Nat → Bool) (n : Nat) : List Bool := (List.range n).map p
theorem tabL_length (p : Nat → Bool) (n : Nat) : (tabL p n).length = n := by simp [tabL]
theorem tabL_succ (p : Nat → Bool) (n : Nat) : tabL p (n + 1) = tabL p n ++ [p n] := by simp [tabL, List.range_succ]
theorem tabL_get {p : Nat → Bool} {n i : Nat} (h : i < n) : (tabL p n)[i]? = some (p i) := by simp [tabL, h]

/-- The first row with a value, or -1. -/
def firstI (p : Nat → Bool) (b : Bool) : Int := match (List.range 64).find? (fun i => p i == b) with
  | some i => i
  | none => -1
theorem firstI_at {p : Nat → Bool} {b : Bool} {k : Nat} (hk : k < 64) (h : (p k == b) = true) (hall : ∀ i, i < k → (p i == b) = false) : firstI p b = k := by
  unfold firstI
  have : (List.range 64).find? (fun i => p i == b) = some k := by
    rw [List.find?_range_eq_some]
    exact ⟨h, by simpa using hk, fun j hj => by simpa using hall j hj⟩
  rw [this]
theorem firstI_none {p : Nat → Bool} {b : Bool} (hall : ∀ i, i < 64 → (p i == b) = false) : firstI p b = -1 := by
  unfold firstI
  have : (List.range 64).find? (fun i => p i == b) = none := by
    rw [List.find?_eq_none]
    intro i hi
    rw [hall i (by simpa using hi)]
    simp
  rw [this]
theorem firstI_bounds (p : Nat → Bool) (b : Bool) : -1 ≤ firstI p b ∧ firstI p b < 64 := by
  unfold firstI
  cases h : (List.range 64).find? (fun i => p i == b) with
  | none => simp
  | some i =>
    have := List.mem_of_find?_eq_some h
    simp at this
    simp; omega
theorem firstI_neg (p : Nat → Bool) (b : Bool) : firstI p b < 0 ↔ ∀ i, i < 64 → (p i == b) = false := by
  unfold firstI
  cases h : (List.range 64).find? (fun i => p i == b) with
  | none =>
    rw [List.find?_eq_none] at h
    simp only [show (-1 : Int) < 0 by omega, true_iff]
    intro i hi
    have := h i (by simpa using hi)
    simpa using this
  | some i =>
    have h2 := List.find?_some h
    have h3 := List.mem_of_find?_eq_some h
    simp at h3
    constructor
    · intro h4; simp at h4; omega
    · intro h4; rw [h4 i h3] at h2; cases h2

/-- The error for formulas that have to be plain. -/
def codeP (l : List (List Nd)) : Int := if l.all formB then if l.all plainB then 0 else 5 else 1
theorem codeP_cases (l : List (List Nd)) : (l.all formB = false ∧ codeP l = 1) ∨ (l.all formB = true ∧ l.all plainB = false ∧ codeP l = 5) ∨ (l.all formB = true ∧ l.all plainB = true ∧ codeP l = 0) := by
  unfold codeP
  cases l.all formB <;> cases l.all plainB <;> simp
theorem codeP_one {ns : List Nd} (h : codeP [ns] = 0) : formB ns = true ∧ plainB ns = true := by
  rcases codeP_cases [ns] with h1 | h1 | h1
  · omega
  · omega
  · simpa using And.intro h1.1 h1.2.1
theorem codeP_ne {l : List (List Nd)} (h : ¬ codeP l = 0) : (codeP l != 0) = true := by simpa using h

theorem slices_one (w : World) (a : Option Addr) (n c : Nat) (ns : List Nd) (t : TypeId) : Slices (w.alloc (.cells #[.slice a n c] t)) (.slice (some ⟨w.heap.size, 0, none⟩) 1 1) [((a, n, c), ns)] := by
  refine ⟨rfl, by show 1 ≤ maxLen; unfold maxLen; omega, _, 1, w.heap.size, 0, rfl, by show 1 ≤ 1; omega, fun _ => rfl, fun i u hu => ?_⟩
  rw [World.cell?_alloc_at _ _ _ _ rfl]
  match i, hu with
  | 0, hu => simpa [slV] using hu
  | i + 1, hu => simp at hu
end Go.Proofs.YtmhkcicjbgifnaaGreat

/- The reference's test of a bit. -/
namespace Go.Proofs.YtmhkcicjbgifnaaGreat
open Go.RowKit

theorem l01Bit_any (m i : Int) (h0 : 0 ≤ m) (h1 : m < 9223372036854775808) (h2 : 0 ≤ i) (h3 : i ≤ 63) (w : World) :
    Calls Tryz.prog 61 #[.int .i64 m, .int .i64 i] w fun e w' => e = .returned (.bool (hasB m i)) ∧ w = w' := by
  have hp := Lib.hid (has_bit m i h0 h1)
  clear h1
  go_enter Tryz.func61, Tryz.ntmps61
  go_wp2
  go_ret
  exact ⟨ret_bool hp.out, rfl⟩
end Go.Proofs.YtmhkcicjbgifnaaGreat
