/- Plain theory: the lexical order of lists of integers; lists of clauses; what has no doubles and lies below a number is no longer than that number. No program is named here. -/
import Derived.Test.YtmhkcicjbgifnaaGreatMResMath
import Derived.Test.YtmhkcicjbgifnaaGreatMAppendNilM
import Derived.Test.YtmhkcicjbgifnaaGreatMPredM

namespace Go.Proofs.YtmhkcicjbgifnaaGreat
open Go.RowKit Go.Lib
set_option linter.unusedVariables false

abbrev ltI (x y : List Int) : Prop := x < y
theorem lo_lists : LO ltI where
  irr := fun a => List.lt_irrefl a
  tr := fun a b c h1 h2 => List.lt_trans h1 h2
  tri := fun a b h1 h2 => List.le_antisymm (List.not_lt.1 h2) (List.not_lt.1 h1)
theorem ltI_nil (y : Int) (ys : List Int) : ltI [] (y :: ys) := List.nil_lt_cons y ys
theorem ltI_nil_no (x : List Int) : ¬ ltI x [] := List.not_lt_nil x
theorem ltI_cons {x y : Int} {xs ys : List Int} : ltI (x :: xs) (y :: ys) ↔ x < y ∨ (x = y ∧ ltI xs ys) := List.cons_lt_cons_iff
/-- The order of two lists that agree up to one place. -/
theorem ltI_at : ∀ (xs ys : List Int) (k : Nat) (x y : Int), (∀ j, j < k → xs[j]? = ys[j]?) → xs[k]? = some x → ys[k]? = some y → x ≠ y → (ltI xs ys ↔ x < y)
  | [], _, k, _, _, _, h, _, _ => by simp at h
  | _ :: _, [], k, _, _, _, _, h, _ => by simp at h
  | a :: xs, b :: ys, 0, x, y, _, hx, hy, hne => by
    have e1 : a = x := by simpa using hx
    have e2 : b = y := by simpa using hy
    subst e1; subst e2
    rw [ltI_cons]
    constructor
    · rintro (h | ⟨h, _⟩)
      · exact h
      · exact absurd h hne
    · exact .inl
  | a :: xs, b :: ys, k + 1, x, y, h, hx, hy, hne => by
    have e : a = b := by simpa using h 0 (by omega)
    subst e
    have ih := ltI_at xs ys k x y (fun j hj => by simpa using h (j + 1) (by omega)) (by simpa using hx) (by simpa using hy) hne
    rw [ltI_cons, ← ih]
    constructor
    · rintro (h | ⟨_, h⟩)
      · exact absurd h (Int.lt_irrefl a)
      · exact h
    · exact fun h => .inr ⟨rfl, h⟩
/-- The order of two lists of which one begins with the other. -/
theorem ltI_pre : ∀ (xs ys : List Int), (∀ j, j < xs.length → j < ys.length → xs[j]? = ys[j]?) → (ltI xs ys ↔ xs.length < ys.length)
  | [], [], _ => by simp
  | [], b :: ys, _ => by simp [ltI_nil]
  | a :: xs, [], _ => by simp
  | a :: xs, b :: ys, h => by
    have e : a = b := by simpa using h 0 (by simp) (by simp)
    subst e
    have ih := ltI_pre xs ys (fun j h1 h2 => by simpa using h (j + 1) (by simpa using h1) (by simpa using h2))
    rw [ltI_cons]
    constructor
    · rintro (h | ⟨_, h⟩)
      · exact absurd h (Int.lt_irrefl a)
      · simpa using ih.1 h
    · intro h
      exact .inr ⟨rfl, ih.2 (by simpa using h)⟩

/-- What has no doubles and lies below n has no more than n members. -/
theorem nodup_len : ∀ (n : Nat) (l : List Nat), l.Nodup → (∀ x ∈ l, x < n) → l.length ≤ n := by
  intro n
  induction n with
  | zero =>
    intro l _ h
    cases l with
    | nil => simp
    | cons a l => exact absurd (h a List.mem_cons_self) (Nat.not_lt_zero a)
  | succ n ih =>
    intro l hl h
    have h1 := ih (l.filter fun x => x != n) (hl.filter _) (fun x hx => by
      rw [List.mem_filter] at hx
      have h2 := h x hx.1
      have h3 : x ≠ n := by simpa using hx.2
      omega)
    have h2 : l.length ≤ (l.filter fun x => x != n).length + 1 := by
      clear ih h h1
      induction l with
      | nil => simp
      | cons a l ihl =>
        rw [List.nodup_cons] at hl
        by_cases e : a = n
        · subst e
          have h3 : (l.filter fun x => x != a) = l := List.filter_eq_self.2 fun x hx => by
            have : x ≠ a := fun e2 => hl.1 (e2 ▸ hx)
            simpa using this
          rw [List.filter_cons_of_neg (by simp), h3, List.length_cons]
          exact Nat.le_refl _
        · rw [List.filter_cons_of_pos (by simpa using e), List.length_cons, List.length_cons]
          have := ihl hl.2
          omega
    omega
end Go.Proofs.YtmhkcicjbgifnaaGreat

/- Walks of the functions on a mask's members: the lists and the counts, of the program and of the reference. -/
namespace Go.Proofs.YtmhkcicjbgifnaaGreat
open Go.RowKit

theorem bits63 (m : Int) (h0 : 0 ≤ m) (h1 : m < 9223372036854775808) : m.toNat < 2 ^ 63 := by omega

/-- The members of a mask as the program lists them. -/
def mem (m : Int) : List Int := membersL m.toNat

theorem mem_length_le (m : Int) : (mem m).length ≤ 63 := bitsUpto_length _ _

theorem shr_zero (m : Int) (k : Nat) (h0 : 0 ≤ m) (h : m / 2 ^ k ≤ 0) : m.toNat / 2 ^ k = 0 := by
  rw [← toNat_shr m k h0]; omega

theorem shr_pos63 (m : Int) (k : Nat) (h0 : 0 ≤ m) (h1 : m < 9223372036854775808) (h : 0 < m / 2 ^ k) : k < 63 := by
  rcases Nat.lt_or_ge k 63 with h2 | h2
  · exact h2
  · have h3 : m.toNat / 2 ^ k = 0 := Nat.div_eq_of_lt (Nat.lt_of_lt_of_le (bits63 m h0 h1) (Nat.pow_le_pow_right (by omega) h2))
    rw [← toNat_shr m k h0] at h3
    omega


theorem half_step (m : Int) (k : Nat) (x : Int) (hx : x = m / 2 ^ k) (h0 : 0 ≤ m) : x / 2 = m / 2 ^ (k + 1) := by
  obtain ⟨M, rfl⟩ := Int.eq_ofNat_of_zero_le h0
  subst hx
  rw [Int.ediv_ediv_of_nonneg (by exact Int.le_of_lt (Int.pow_pos (by omega))), Int.pow_succ]

theorem half_bit (m : Int) (k : Nat) (x : Int) (hx : x = m / 2 ^ k) (h0 : 0 ≤ m) : (x % 2 == 1) = m.toNat.testBit k := by
  have h := toNat_shr m k h0
  rw [← hx] at h
  have h2 : 0 ≤ x := by rw [hx]; exact Int.ediv_nonneg h0 (Int.le_of_lt (Int.pow_pos (by omega)))
  rw [Nat.testBit_eq_decide_div_mod_eq, ← h, Bool.eq_iff_iff]
  simp only [beq_iff_eq, decide_eq_true_eq]
  omega

theorem half_le (m : Int) (k : Nat) (x : Int) (hx : x = m / 2 ^ k) (h0 : 0 ≤ m) : 0 ≤ x ∧ x ≤ m := by
  subst hx
  exact ⟨Int.ediv_nonneg h0 (Int.le_of_lt (Int.pow_pos (by omega))), Int.ediv_le_self _ h0⟩

theorem half_zero (m : Int) (k : Nat) (x : Int) (hx : x = m / 2 ^ k) (h0 : 0 ≤ m) (h : x ≤ 0) : m.toNat / 2 ^ k = 0 := shr_zero m k h0 (by omega)
theorem half_pos (m : Int) (k : Nat) (x : Int) (hx : x = m / 2 ^ k) (h0 : 0 ≤ m) (h1 : m < 9223372036854775808) (h : 0 < x) : k < 63 := shr_pos63 m k h0 h1 (by omega)


theorem ones_done (m k : Nat) (h : m / 2 ^ k = 0) (hk : k ≤ 64) : ones k m = ones 64 m := by
  rw [show 64 = k + (64 - k) by omega, ones_split, h, ones_zero]; omega

theorem ones_succ (m : Int) (k : Nat) (y : Int) (hy : y = m / 2 ^ k) (h0 : 0 ≤ m) : ((ones (k + 1) m.toNat : Nat) : Int) = (ones k m.toNat : Nat) + y % 2 := by
  have h := toNat_shr m k h0
  rw [← hy] at h
  have := half_le m k y hy h0
  rw [ones_split, ← h]
  simp only [ones]
  omega

theorem mem_popInt (m : Int) (h0 : 0 ≤ m) (h1 : m < 9223372036854775808) : ((mem m).length : Int) = popInt m := by
  unfold mem membersL popInt
  rw [bitsUpto_ones]
  have : ones 63 m.toNat = ones 64 m.toNat := ones_done _ _ (Nat.div_eq_of_lt (bits63 m h0 h1)) (by omega)
  rw [this]

theorem popInt_bounds (m : Int) : 0 ≤ popInt m ∧ popInt m ≤ 64 := by
  have := ones_le 64 m.toNat
  unfold popInt
  omega



theorem maskCode_bounds {n m : Int} (h : maskCode n m = 0) : 0 ≤ n ∧ n ≤ 30 ∧ 0 ≤ m ∧ m < 1073741824 := by
  unfold maskCode at h
  split at h
  · rename_i h1
    split at h
    · rename_i h2
      have h1 := inR_iff.1 h1
      have h2 := inR_iff.1 h2
      have := pow_bounds n 30 (by omega)
      rw [show (2 : Int) ^ 30 = 1073741824 by decide] at this
      unfold full at h2
      omega
    · cases h
  · cases h

def membersR (n m : Int) : List Int := if maskCode n m = 0 then mem m else []
def countR (n m : Int) : Int := if maskCode n m = 0 then popInt m else 0

theorem maskCode_ne {n m : Int} (h : ¬ maskCode n m = 0) : (maskCode n m != 0) = true := by simpa using h
theorem maskCode_eq {n m : Int} (h : maskCode n m = 0) : (maskCode n m != 0) = false := by simpa using h




end Go.Proofs.YtmhkcicjbgifnaaGreat

/- Walks of MaskOf and ChooseMasks, of the program and of the reference. -/
namespace Go.Proofs.YtmhkcicjbgifnaaGreat
open Go.RowKit

/-- The mask of the numbers of a list. -/
def orBits (xs : List Int) : Nat := xs.foldl (fun acc x => acc ||| 2 ^ x.toNat) 0

theorem orBits_succ (xs : List Int) (k : Nat) (x : Int) (hx : xs[k]? = some x) : orBits (xs.take (k + 1)) = orBits (xs.take k) ||| 2 ^ x.toNat := by
  have hk : k < xs.length := (List.getElem?_eq_some_iff.1 hx).1
  have e : xs.take (k + 1) = xs.take k ++ [x] := by
    rw [List.take_add_one, hx]; rfl
  rw [e]
  simp [orBits, List.foldl_append]

theorem or_step (m x : Int) (h0 : 0 ≤ m) (h1 : m < 1073741824) (_h2 : 0 ≤ x) (h3 : x ≤ 29) :
    bits BinOp.or IntKind.i64 m (2 ^ x.toNat) = ((m.toNat ||| 2 ^ x.toNat : Nat) : Int) ∧ 0 ≤ bits BinOp.or IntKind.i64 m (2 ^ x.toNat) ∧ bits BinOp.or IntKind.i64 m (2 ^ x.toNat) < 1073741824 := by
  have hp := pow_bounds x 29 (by omega)
  rw [show (2 : Int) ^ 29 = 536870912 by decide] at hp
  have e : ((2 : Int) ^ x.toNat) = ((2 ^ x.toNat : Nat) : Int) := by simp
  have hq : (2 : Nat) ^ x.toNat < 2 ^ 30 := by rw [e] at hp; omega
  have hr : m.toNat ||| 2 ^ x.toNat < 2 ^ 30 := Nat.or_lt_two_pow (by omega) hq
  rw [e] at hp
  rw [e, i64_or _ _ h0 (by omega) (by omega) (by omega), Int.toNat_natCast]
  refine ⟨rfl, by omega, by omega⟩

def maskOfCode (n : Int) (xs : List Int) : Int := if inR n 0 30 then if xs.all (inR · 0 (n - 1)) then 0 else 1 else 2
def maskOfR (n : Int) (xs : List Int) : Int := if inR n 0 30 && xs.all (inR · 0 (n - 1)) then (orBits xs : Nat) else 0


end Go.Proofs.YtmhkcicjbgifnaaGreat
