/- Walks of the functions on a mask's members: the lists and the counts, of the program and of the reference. -/
import Derived.Test.YtobbhflajkhcdaaMasks
namespace Go.Proofs.Ytobbhflajkhcdaa
open Go.RowKit

theorem bits63 (m : Int) (h0 : 0 ≤ m) (h1 : m < 9223372036854775808) : m.toNat < 2 ^ 63 := by omega

/-- The members of a mask as the program lists them. -/
def mem (m : Int) : List Int := membersL m.toNat

theorem mem_length_le (m : Int) : (mem m).length ≤ 63 := bitsUpto_length _ _

theorem shr_zero (m : Int) (k : Nat) (h0 : 0 ≤ m) (h : m / 2 ^ k ≤ 0) : m.toNat / 2 ^ k = 0 := by
  rw [← toNat_shr m k h0]; omega

theorem shr_pos63 (m : Int) (k : Nat) (h0 : 0 ≤ m) (h1 : m < 9223372036854775808) (h : 0 < m / 2 ^ k) : k < 63 := by
  rcases Nat.lt_or_ge k 63 with h2 | h2
  · exact h2
  · have h3 : m.toNat / 2 ^ k = 0 := Nat.div_eq_of_lt (Nat.lt_of_lt_of_le (bits63 m h0 h1) (Nat.pow_le_pow_right (by omega) h2))
    rw [← toNat_shr m k h0] at h3
    omega


theorem half_step (m : Int) (k : Nat) (x : Int) (hx : x = m / 2 ^ k) (h0 : 0 ≤ m) : x / 2 = m / 2 ^ (k + 1) := by
  obtain ⟨M, rfl⟩ := Int.eq_ofNat_of_zero_le h0
  subst hx
  rw [Int.ediv_ediv_of_nonneg (by exact Int.le_of_lt (Int.pow_pos (by omega))), Int.pow_succ]

theorem half_bit (m : Int) (k : Nat) (x : Int) (hx : x = m / 2 ^ k) (h0 : 0 ≤ m) : (x % 2 == 1) = m.toNat.testBit k := by
  have h := toNat_shr m k h0
  rw [← hx] at h
  have h2 : 0 ≤ x := by rw [hx]; exact Int.ediv_nonneg h0 (Int.le_of_lt (Int.pow_pos (by omega)))
  rw [Nat.testBit_eq_decide_div_mod_eq, ← h, Bool.eq_iff_iff]
  simp only [beq_iff_eq, decide_eq_true_eq]
  omega

theorem half_le (m : Int) (k : Nat) (x : Int) (hx : x = m / 2 ^ k) (h0 : 0 ≤ m) : 0 ≤ x ∧ x ≤ m := by
  subst hx
  exact ⟨Int.ediv_nonneg h0 (Int.le_of_lt (Int.pow_pos (by omega))), Int.ediv_le_self _ h0⟩

theorem half_zero (m : Int) (k : Nat) (x : Int) (hx : x = m / 2 ^ k) (h0 : 0 ≤ m) (h : x ≤ 0) : m.toNat / 2 ^ k = 0 := shr_zero m k h0 (by omega)
theorem half_pos (m : Int) (k : Nat) (x : Int) (hx : x = m / 2 ^ k) (h0 : 0 ≤ m) (h1 : m < 9223372036854775808) (h : 0 < x) : k < 63 := shr_pos63 m k h0 h1 (by omega)


theorem ones_done (m k : Nat) (h : m / 2 ^ k = 0) (hk : k ≤ 64) : ones k m = ones 64 m := by
  rw [show 64 = k + (64 - k) by omega, ones_split, h, ones_zero]; omega

theorem ones_succ (m : Int) (k : Nat) (y : Int) (hy : y = m / 2 ^ k) (h0 : 0 ≤ m) : ((ones (k + 1) m.toNat : Nat) : Int) = (ones k m.toNat : Nat) + y % 2 := by
  have h := toNat_shr m k h0
  rw [← hy] at h
  have := half_le m k y hy h0
  rw [ones_split, ← h]
  simp only [ones]
  omega

theorem mem_popInt (m : Int) (h0 : 0 ≤ m) (h1 : m < 9223372036854775808) : ((mem m).length : Int) = popInt m := by
  unfold mem membersL popInt
  rw [bitsUpto_ones]
  have : ones 63 m.toNat = ones 64 m.toNat := ones_done _ _ (Nat.div_eq_of_lt (bits63 m h0 h1)) (by omega)
  rw [this]

theorem popInt_bounds (m : Int) : 0 ≤ popInt m ∧ popInt m ≤ 64 := by
  have := ones_le 64 m.toNat
  unfold popInt
  omega



theorem maskCode_bounds {n m : Int} (h : maskCode n m = 0) : 0 ≤ n ∧ n ≤ 30 ∧ 0 ≤ m ∧ m < 1073741824 := by
  unfold maskCode at h
  split at h
  · rename_i h1
    split at h
    · rename_i h2
      have h1 := inR_iff.1 h1
      have h2 := inR_iff.1 h2
      have := pow_bounds n 30 (by omega)
      rw [show (2 : Int) ^ 30 = 1073741824 by decide] at this
      unfold full at h2
      omega
    · cases h
  · cases h

def membersR (n m : Int) : List Int := if maskCode n m = 0 then mem m else []
def countR (n m : Int) : Int := if maskCode n m = 0 then popInt m else 0

theorem maskCode_ne {n m : Int} (h : ¬ maskCode n m = 0) : (maskCode n m != 0) = true := by simpa using h
theorem maskCode_eq {n m : Int} (h : maskCode n m = 0) : (maskCode n m != 0) = false := by simpa using h




end Go.Proofs.Ytobbhflajkhcdaa
