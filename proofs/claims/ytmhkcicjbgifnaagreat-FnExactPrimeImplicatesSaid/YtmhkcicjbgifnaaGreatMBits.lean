/- Plain arithmetic of masks: bits of a number, how many there are, and what the model's operations on int64 and uint64 make of them. No program is named here. -/
import Derived.WalkKit

namespace Go.Proofs.YtmhkcicjbgifnaaGreat
open Go.RowKit

theorem i64_ofInt (a : Nat) (ha : a < 9223372036854775808) : (BitVec.ofInt 64 (a : Int)).toNat = a := by
  rw [BitVec.ofInt_natCast, BitVec.toNat_ofNat]; exact Nat.mod_eq_of_lt (by omega)

theorem i64_and_nat (a b : Nat) (ha : a < 9223372036854775808) (hb : b < 9223372036854775808) : bits .and .i64 (a : Int) (b : Int) = ((a &&& b : Nat) : Int) := by
  have hx : a &&& b < 2 ^ 63 := Nat.and_lt_two_pow _ (by omega)
  show IntKind.i64.wrap ((BitVec.ofInt 64 (a : Int) &&& BitVec.ofInt 64 (b : Int)).toNat : Int) = _
  rw [BitVec.toNat_and, i64_ofInt a ha, i64_ofInt b hb, IntKind.wrap_i64]
  omega

theorem i64_or_nat (a b : Nat) (ha : a < 9223372036854775808) (hb : b < 9223372036854775808) : bits .or .i64 (a : Int) (b : Int) = ((a ||| b : Nat) : Int) := by
  have hx : a ||| b < 2 ^ 63 := Nat.or_lt_two_pow (by omega) (by omega)
  show IntKind.i64.wrap ((BitVec.ofInt 64 (a : Int) ||| BitVec.ofInt 64 (b : Int)).toNat : Int) = _
  rw [BitVec.toNat_or, i64_ofInt a ha, i64_ofInt b hb, IntKind.wrap_i64]
  omega

theorem i64_and (a b : Int) (h1 : 0 ≤ a) (h2 : a < 9223372036854775808) (h3 : 0 ≤ b) (h4 : b < 9223372036854775808) : bits .and .i64 a b = ((a.toNat &&& b.toNat : Nat) : Int) := by
  obtain ⟨A, rfl⟩ := Int.eq_ofNat_of_zero_le h1
  obtain ⟨B, rfl⟩ := Int.eq_ofNat_of_zero_le h3
  simpa using i64_and_nat A B (by omega) (by omega)

theorem i64_or (a b : Int) (h1 : 0 ≤ a) (h2 : a < 9223372036854775808) (h3 : 0 ≤ b) (h4 : b < 9223372036854775808) : bits .or .i64 a b = ((a.toNat ||| b.toNat : Nat) : Int) := by
  obtain ⟨A, rfl⟩ := Int.eq_ofNat_of_zero_le h1
  obtain ⟨B, rfl⟩ := Int.eq_ofNat_of_zero_le h3
  simpa using i64_or_nat A B (by omega) (by omega)

theorem toNat_shr (m : Int) (i : Nat) (h : 0 ≤ m) : (m / 2 ^ i).toNat = m.toNat / 2 ^ i := by
  obtain ⟨M, rfl⟩ := Int.eq_ofNat_of_zero_le h
  have : ((M : Int) / 2 ^ i) = ((M / 2 ^ i : Nat) : Int) := by simp
  rw [this]
  simp only [Int.toNat_natCast]

theorem has_bit (m i : Int) (h : 0 ≤ m) (h2 : m < 9223372036854775808) : (bits .and .i64 (m / 2 ^ i.toNat) 1 == 1) = m.toNat.testBit i.toNat := by
  have hp : (0 : Int) < 2 ^ i.toNat := Int.pow_pos (by omega)
  have h3 : 0 ≤ m / 2 ^ i.toNat := Int.ediv_nonneg h (by omega)
  have h4 : m / 2 ^ i.toNat ≤ m := Int.ediv_le_self _ h
  rw [i64_and _ _ h3 (by omega) (by omega) (by omega), toNat_shr m _ h, Nat.testBit_eq_decide_div_mod_eq]
  have : (1 : Int).toNat = 1 := rfl
  rw [this, Nat.and_one_is_mod]
  rw [Bool.eq_iff_iff]
  simp only [beq_iff_eq, decide_eq_true_eq]
  omega

/-- The members of a mask below k, ascending. -/
def bitsUpto (m : Nat) (k : Nat) : List Int := ((List.range k).filter (m.testBit ·)).map Int.ofNat

theorem bitsUpto_zero (m : Nat) : bitsUpto m 0 = [] := rfl
theorem bitsUpto_succ (m k : Nat) : bitsUpto m (k + 1) = bitsUpto m k ++ if m.testBit k then [(k : Int)] else [] := by
  unfold bitsUpto
  rw [List.range_succ, List.filter_append, List.map_append]
  congr 1
  by_cases h : m.testBit k <;> simp [h]

theorem bitsUpto_length (m k : Nat) : (bitsUpto m k).length ≤ k := by
  unfold bitsUpto
  rw [List.length_map]
  exact Nat.le_trans (List.length_filter_le _ _) (by simp)

theorem bitsUpto_end (m k j : Nat) (h : m < 2 ^ k) (hk : k ≤ j) : bitsUpto m j = bitsUpto m k := by
  induction j with
  | zero => simp at hk; subst hk; rfl
  | succ j ih =>
    rcases Nat.lt_or_ge k (j + 1) with h1 | h1
    · rw [bitsUpto_succ, ih (by omega)]
      have : m.testBit j = false := Nat.testBit_lt_two_pow (Nat.lt_of_lt_of_le h (Nat.pow_le_pow_right (by omega) (by omega)))
      simp [this]
    · rw [show k = j + 1 by omega]

/-- The members of a mask. -/
def membersL (m : Nat) : List Int := bitsUpto m 63

/-- Where nothing is left above i, all members are below i. -/
theorem bitsUpto_done (m i : Nat) (h : m / 2 ^ i = 0) (hm : m < 2 ^ 63) : bitsUpto m i = membersL m := by
  have h1 : m < 2 ^ i := by
    rcases Nat.lt_or_ge m (2 ^ i) with h2 | h2
    · exact h2
    · have := Nat.div_pos h2 (Nat.pow_pos (n := i) (by omega)); omega
  unfold membersL
  rcases Nat.lt_or_ge i 63 with h2 | h2
  · exact (bitsUpto_end m i 63 h1 (by omega)).symm
  · exact bitsUpto_end m 63 i hm h2

theorem bitsUpto_mem (m k : Nat) (x : Int) : x ∈ bitsUpto m k ↔ ∃ i : Nat, x = i ∧ i < k ∧ m.testBit i = true := by
  unfold bitsUpto
  simp only [List.mem_map, List.mem_filter, List.mem_range]
  constructor
  · rintro ⟨i, ⟨h1, h2⟩, rfl⟩; exact ⟨i, rfl, h1, h2⟩
  · rintro ⟨i, rfl, h1, h2⟩; exact ⟨i, ⟨h1, h2⟩, rfl⟩

theorem membersL_mem (m : Nat) (hm : m < 2 ^ 63) (x : Int) : x ∈ membersL m ↔ ∃ i : Nat, x = i ∧ m.testBit i = true := by
  unfold membersL
  rw [bitsUpto_mem]
  constructor
  · rintro ⟨i, h1, _, h3⟩; exact ⟨i, h1, h3⟩
  · rintro ⟨i, h1, h3⟩
    refine ⟨i, h1, ?_, h3⟩
    rcases Nat.lt_or_ge i 63 with h | h
    · exact h
    · rw [Nat.testBit_lt_two_pow (Nat.lt_of_lt_of_le hm (Nat.pow_le_pow_right (by omega) h))] at h3; cases h3

theorem membersL_length (m : Nat) (k : Nat) (h : m < 2 ^ k) (hk : k ≤ 63) : (membersL m).length ≤ k := by
  unfold membersL
  rw [bitsUpto_end m k 63 h hk]
  exact bitsUpto_length m k

/-! How many bits a number of 64 bits has, by halving. -/
def ones : Nat → Nat → Nat
  | 0, _ => 0
  | n + 1, x => x % 2 + ones n (x / 2)

theorem ones_zero (n : Nat) : ones n 0 = 0 := by
  induction n with
  | zero => rfl
  | succ n ih => simp [ones, ih]

theorem ones_split (a b x : Nat) : ones (a + b) x = ones a x + ones b (x / 2 ^ a) := by
  induction a generalizing x with
  | zero => simp [ones]
  | succ a ih =>
    rw [show a + 1 + b = (a + b) + 1 by omega]
    simp only [ones]
    rw [ih, Nat.div_div_eq_div_mul, show 2 * 2 ^ a = 2 ^ (a + 1) by rw [Nat.pow_succ, Nat.mul_comm]]
    omega

theorem ones_le (n x : Nat) : ones n x ≤ n := by
  induction n generalizing x with
  | zero => simp [ones]
  | succ n ih => have := ih (x / 2); simp only [ones]; omega

theorem ones_mod (n x : Nat) : ones n (x % 2 ^ n) = ones n x := by
  induction n generalizing x with
  | zero => rfl
  | succ n ih =>
    simp only [ones]
    have h1 : x % 2 ^ (n + 1) % 2 = x % 2 := Nat.mod_mod_of_dvd _ ⟨2 ^ n, by rw [Nat.pow_succ]; omega⟩
    have h2 : x % 2 ^ (n + 1) / 2 = x / 2 % 2 ^ n := by
      rw [Nat.pow_succ, Nat.mul_comm, Nat.mod_mul_right_div_self]
    rw [h1, h2, ih]

theorem bitsUpto_ones (m k : Nat) : (bitsUpto m k).length = ones k m := by
  induction k with
  | zero => rfl
  | succ k ih =>
    rw [bitsUpto_succ, List.length_append, ih, ones_split k 1]
    simp only [ones, Nat.testBit_eq_decide_div_mod_eq]
    rcases Nat.mod_two_eq_zero_or_one (m / 2 ^ k) with h | h <;> simp [h]

/-- One field of a number in base 2^s: the mask of its low part. -/
theorem and_split (s x y : Nat) : x &&& y = 2 ^ s * ((x / 2 ^ s) &&& (y / 2 ^ s)) + ((x % 2 ^ s) &&& (y % 2 ^ s)) := by
  have h := Nat.div_add_mod (x &&& y) (2 ^ s)
  rw [Nat.and_div_two_pow, Nat.and_mod_two_pow] at h
  exact h.symm
end Go.Proofs.YtmhkcicjbgifnaaGreat
