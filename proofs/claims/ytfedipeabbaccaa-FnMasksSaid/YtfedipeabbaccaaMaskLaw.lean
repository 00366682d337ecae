/- The plain law behind FnMasks: members and masks determine each other. -/
import Derived.Test.YtfedipeabbaccaaSubs
import Derived.Test.YtfedipeabbaccaaMaskOf
namespace Go.Proofs.Ytfedipeabbaccaa

theorem orBits_append (xs ys : List Int) : orBits (xs ++ ys) = ys.foldl (fun acc x => acc ||| 2 ^ x.toNat) (orBits xs) := by simp [orBits, List.foldl_append]
theorem orBits_bits (m k : Nat) : orBits (bitsUpto m k) = m % 2 ^ k := by
  induction k with
  | zero => simp [bitsUpto_zero, orBits, Nat.mod_one]
  | succ k ih =>
    rw [bitsUpto_succ, orBits_append, ih]
    apply Nat.eq_of_testBit_eq
    intro i
    cases hb : m.testBit k
    · simp only [Bool.false_eq_true, if_false, List.foldl_nil, Nat.testBit_mod_two_pow]
      by_cases h1 : i < k
      · simp [h1, show i < k + 1 by omega]
      · by_cases h2 : i = k
        · subst h2; simp [hb]
        · simp [h1, show ¬ i < k + 1 by omega]
    · simp only [if_true, List.foldl_cons, List.foldl_nil, Int.toNat_natCast, Nat.testBit_or, Nat.testBit_mod_two_pow, Nat.testBit_two_pow]
      by_cases h1 : i < k
      · simp [h1, show i < k + 1 by omega, show ¬ k = i by omega]
      · by_cases h2 : i = k
        · subst h2; simp [hb]
        · simp [h1, show ¬ i < k + 1 by omega, show ¬ k = i by omega]

theorem maskCode_zero {n m : Int} (h : maskCode n m = 0) : inR n 0 30 = true ∧ 0 ≤ n ∧ n ≤ 30 ∧ 0 ≤ m ∧ m.toNat < 2 ^ n.toNat := by
  unfold maskCode at h
  cases h1 : inR n 0 30 <;> rw [h1] at h
  · simp at h
  · cases h2 : inR m 0 (full n) <;> rw [h2] at h
    · simp at h
    · have h3 := inR_iff.1 h1
      have h4 := inR_iff.1 h2
      unfold full at h4
      have e : ((2 : Int) ^ n.toNat) = ((2 ^ n.toNat : Nat) : Int) := by simp
      rw [e] at h4
      exact ⟨rfl, h3.1, h3.2, h4.1, by omega⟩

theorem mem_small {n m : Int} (h : maskCode n m = 0) : mem m = bitsUpto m.toNat n.toNat := by
  obtain ⟨_, h0, h1, _, h3⟩ := maskCode_zero h
  unfold mem membersL
  exact bitsUpto_end _ _ _ h3 (by omega)

theorem pop_small {n m : Int} (h : maskCode n m = 0) : popInt m = ((mem m).length : Int) := by
  obtain ⟨_, h0, h1, h2, h3⟩ := maskCode_zero h
  have hl : m.toNat < 2 ^ 63 := Nat.lt_of_lt_of_le h3 (Nat.pow_le_pow_right (by omega) (by omega))
  unfold popInt
  rw [← bitsUpto_ones, bitsUpto_end m.toNat n.toNat 64 h3 (by omega), ← mem_small h]

theorem members_back {n m : Int} (h : maskCode n m = 0) : maskOfCode n (mem m) = 0 ∧ maskOfR n (mem m) = m := by
  obtain ⟨hi, h0, h1, h2, h3⟩ := maskCode_zero h
  have hall : (mem m).all (inR · 0 (n - 1)) = true := by
    rw [List.all_eq_true]
    intro x hx
    rw [mem_small h, bitsUpto_mem] at hx
    obtain ⟨i, rfl, hin, _⟩ := hx
    exact inR_iff.2 ⟨by omega, by omega⟩
  unfold maskOfCode maskOfR
  rw [hi, hall]
  refine ⟨rfl, ?_⟩
  rw [mem_small h, orBits_bits, Nat.mod_eq_of_lt h3]
  simp; omega

theorem sub_size {n m : Int} (h : subCode n m = 0) : maskCode n m = 0 ∧ (mem m).length ≤ 8 ∧ (subR n m).length = 2 ^ (mem m).length := by
  rcases subCode_cases n m with ⟨h1, h2⟩ | ⟨h1, h2, h3⟩ | ⟨h1, h2, h3⟩
  · exact absurd (h2 ▸ h) h1
  · rw [h3] at h; cases h
  · have hp := pop_small h1
    refine ⟨h1, by omega, ?_⟩
    unfold subR
    rw [if_pos h3, preN_length]
    have e : ones 63 m.toNat = (mem m).length := by unfold mem membersL; exact (bitsUpto_ones _ _).symm
    rw [e]

theorem sub_other {n m : Int} (h : subCode n m ≠ 0) (h3 : subCode n m ≠ 3) : maskCode n m ≠ 0 ∧ subCode n m = maskCode n m := by
  rcases subCode_cases n m with h1 | ⟨_, _, h2⟩ | ⟨_, _, h2⟩
  · exact h1
  · exact absurd h2 h3
  · exact absurd h2 h
theorem sub_limit {n m : Int} (h : subCode n m = 3) : maskCode n m = 0 ∧ 8 < popInt m := by
  rcases subCode_cases n m with ⟨h1, h2⟩ | ⟨h1, h2, _⟩ | ⟨_, _, h2⟩
  · exfalso
    rw [h2] at h
    unfold maskCode at h
    split at h <;> (try split at h) <;> simp at h
  · exact ⟨h1, h2⟩
  · rw [h2] at h; cases h
end Go.Proofs.Ytfedipeabbaccaa
