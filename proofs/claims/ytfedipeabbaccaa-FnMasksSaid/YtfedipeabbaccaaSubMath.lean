/- Plain arithmetic of the parts of a mask: the list that doubling by the members makes is the list that '(sub - mask) & mask' steps through. No program is named here. -/
import Derived.Test.YtfedipeabbaccaaMembers
namespace Go.Proofs.Ytfedipeabbaccaa
open Go.RowKit

/-- The parts of a mask m whose members lie below 2^n, halving: those without bit 0's digit first. -/
def dep : Nat → Nat → Nat → Nat
  | 0, _, _ => 0
  | n + 1, m, j => if m % 2 = 0 then 2 * dep n (m / 2) j else 2 * dep n (m / 2) (j / 2) + j % 2

theorem dep_zero (n m : Nat) : dep n m 0 = 0 := by
  induction n generalizing m with
  | zero => rfl
  | succ n ih => simp [dep, ih]

theorem dep_and (n m j : Nat) : dep n m j &&& m = dep n m j := by
  induction n generalizing m j with
  | zero => simp [dep]
  | succ n ih =>
    have h := and_split 1 (dep (n + 1) m j) m
    rw [h]
    simp only [dep, Nat.pow_one]
    rcases Nat.mod_two_eq_zero_or_one m with hm | hm
    · rw [if_pos hm, hm, show 2 * dep n (m / 2) j / 2 = dep n (m / 2) j by omega, ih]
      simp
    · rw [if_neg (by omega), hm]
      have e1 : (2 * dep n (m / 2) (j / 2) + j % 2) / 2 = dep n (m / 2) (j / 2) := by omega
      have e2 : (2 * dep n (m / 2) (j / 2) + j % 2) % 2 = j % 2 := by omega
      rw [e1, e2, ih]
      rcases Nat.mod_two_eq_zero_or_one j with hj | hj <;> rw [hj] <;> simp

theorem dep_all (n m : Nat) (h : m < 2 ^ n) (c : Nat) (hc : c = ones n m) : dep n m (2 ^ c - 1) = m := by
  induction n generalizing m c with
  | zero => simp at h; subst h; rfl
  | succ n ih =>
    have hh : m / 2 < 2 ^ n := by rw [Nat.pow_succ] at h; omega
    simp only [ones] at hc
    simp only [dep]
    rcases Nat.mod_two_eq_zero_or_one m with hm | hm
    · rw [if_pos hm, ih (m / 2) hh c (by omega)]; omega
    · rw [if_neg (by omega)]
      obtain ⟨c', rfl⟩ : ∃ c', c = c' + 1 := ⟨c - 1, by omega⟩
      have hp : 1 ≤ 2 ^ c' := Nat.pow_pos (by omega)
      have e1 : (2 ^ (c' + 1) - 1) / 2 = 2 ^ c' - 1 := by rw [Nat.pow_succ]; omega
      have e2 : (2 ^ (c' + 1) - 1) % 2 = 1 := by rw [Nat.pow_succ]; omega
      rw [e1, e2, ih (m / 2) hh c' (by omega)]
      omega

theorem dep_lt (n m j : Nat) : dep n m j < 2 ^ n := by
  induction n generalizing m j with
  | zero => simp [dep]
  | succ n ih =>
    simp only [dep, Nat.pow_succ]
    split
    · have := ih (m / 2) j; omega
    · have := ih (m / 2) (j / 2); omega

/-- Two indices below 2^count give different parts. -/
theorem dep_inj (n m i j : Nat) (hi : i < 2 ^ ones n m) (hj : j < 2 ^ ones n m) (h : dep n m i = dep n m j) : i = j := by
  induction n generalizing m i j with
  | zero => simp [ones] at hi hj; omega
  | succ n ih =>
    simp only [ones] at hi hj
    simp only [dep] at h
    rcases Nat.mod_two_eq_zero_or_one m with hm | hm
    · rw [if_pos hm, if_pos hm] at h
      rw [hm, Nat.zero_add] at hi hj
      exact ih (m / 2) i j hi hj (by omega)
    · rw [if_neg (by omega), if_neg (by omega)] at h
      rw [hm, Nat.add_comm, Nat.pow_succ] at hi hj
      have := ih (m / 2) (i / 2) (j / 2) (by omega) (by omega) (by omega)
      omega

theorem dep_mono (n m i j : Nat) (hj : j < 2 ^ ones n m) (h : i < j) : dep n m i < dep n m j := by
  induction n generalizing m i j with
  | zero => simp [ones] at hj; omega
  | succ n ih =>
    simp only [ones] at hj
    simp only [dep]
    rcases Nat.mod_two_eq_zero_or_one m with hm | hm
    · rw [if_pos hm, if_pos hm]
      rw [hm, Nat.zero_add] at hj
      have := ih (m / 2) i j hj h
      omega
    · rw [if_neg (by omega), if_neg (by omega)]
      rw [hm, Nat.add_comm, Nat.pow_succ] at hj
      by_cases h2 : i / 2 < j / 2
      · have := ih (m / 2) (i / 2) (j / 2) (by omega) h2
        omega
      · rw [show i / 2 = j / 2 by omega]
        omega

/-- The step, at numbers of n digits: what '(s - m) & m' makes. -/
def nxt (n m s : Nat) : Nat := ((2 ^ n + s - m) % 2 ^ n) &&& m

theorem sub_of_and {s m : Nat} (h : s &&& m = s) : s ≤ m := by rw [← h]; exact Nat.and_le_right

theorem and_half {s m : Nat} (h : s &&& m = s) : s / 2 &&& m / 2 = s / 2 ∧ (s % 2 ≤ m % 2) := by
  have h1 := and_split 1 s m
  rw [h, Nat.pow_one] at h1
  have h2 : s % 2 &&& m % 2 < 2 := Nat.lt_of_le_of_lt Nat.and_le_left (by omega)
  refine ⟨by omega, ?_⟩
  have h3 : s % 2 &&& m % 2 = s % 2 := by omega
  rw [← h3]
  exact Nat.and_le_right

/-- '(s - m - 1) & m' is s where s is part of m. -/
theorem pred_same (n m s : Nat) (hm : m < 2 ^ n) (h : s &&& m = s) : ((2 ^ n + s - m - 1) % 2 ^ n) &&& m = s := by
  induction n generalizing m s with
  | zero => simp at hm; subst hm; simp at h; subst h; simp
  | succ n ih =>
    have hs := sub_of_and h
    obtain ⟨h1, h2⟩ := and_half h
    have hh : m / 2 < 2 ^ n := by rw [Nat.pow_succ] at hm; omega
    have ih' := ih (m / 2) (s / 2) hh h1
    have hs' := sub_of_and h1
    rw [Nat.pow_succ] at hm ⊢
    generalize 2 ^ n = B at *
    have e : (B * 2 + s - m - 1) % (B * 2) = B * 2 + s - m - 1 := Nat.mod_eq_of_lt (by omega)
    have e' : (B + s / 2 - m / 2 - 1) % B = B + s / 2 - m / 2 - 1 := Nat.mod_eq_of_lt (by omega)
    rw [e]
    rw [e'] at ih'
    rw [and_split 1, Nat.pow_one]
    rcases Nat.mod_two_eq_zero_or_one m with h3 | h3 <;> rcases Nat.mod_two_eq_zero_or_one s with h4 | h4
    · rw [show (B * 2 + s - m - 1) / 2 = B + s / 2 - m / 2 - 1 by omega, ih', h3]; simp; omega
    · omega
    · rw [show (B * 2 + s - m - 1) / 2 = B + s / 2 - m / 2 - 1 by omega, ih', h3, show (B * 2 + s - m - 1) % 2 = 0 by omega]; simp; omega
    · rw [show (B * 2 + s - m - 1) / 2 = B + s / 2 - m / 2 - 1 by omega, ih', h3, show (B * 2 + s - m - 1) % 2 = 1 by omega]; simp; omega

theorem nxt_dep (n m j : Nat) (hm : m < 2 ^ n) (hj : j + 1 < 2 ^ ones n m) : nxt n m (dep n m j) = dep n m (j + 1) := by
  induction n generalizing m j with
  | zero => simp [ones] at hj
  | succ n ih =>
    have hh : m / 2 < 2 ^ n := by rw [Nat.pow_succ] at hm; omega
    simp only [ones] at hj
    have hp : 0 < 2 ^ n := Nat.pow_pos (by omega)
    unfold nxt at ih ⊢
    rw [Nat.pow_succ]
    rw [Nat.pow_succ] at hm
    simp only [dep]
    rcases Nat.mod_two_eq_zero_or_one m with h3 | h3
    · rw [if_pos h3, if_pos h3]
      rw [h3, Nat.zero_add] at hj
      have ih' := ih (m / 2) j hh hj
      have hs := sub_of_and (dep_and n (m / 2) j)
      generalize dep n (m / 2) j = s at *
      generalize dep n (m / 2) (j + 1) = s2 at *
      generalize 2 ^ n = B at *
      rw [and_split 1, Nat.pow_one, h3]
      have e : (B * 2 + 2 * s - m) % (B * 2) / 2 = (B + s - m / 2) % B := by
        by_cases hq : s = m / 2
        · rw [show B * 2 + 2 * s - m = B * 2 by omega, Nat.mod_self, show B + s - m / 2 = B by omega, Nat.mod_self]
        · rw [Nat.mod_eq_of_lt (by omega), Nat.mod_eq_of_lt (by omega)]; omega
      rw [e, ih']
      simp
    · rw [if_neg (by omega), if_neg (by omega)]
      rw [h3, Nat.add_comm 1, Nat.pow_succ] at hj
      rcases Nat.mod_two_eq_zero_or_one j with h4 | h4
      · have hps := pred_same n (m / 2) (dep n (m / 2) (j / 2)) hh (dep_and _ _ _)
        have hs := sub_of_and (dep_and n (m / 2) (j / 2))
        rw [h4, show (j + 1) / 2 = j / 2 by omega, show (j + 1) % 2 = 1 by omega]
        generalize dep n (m / 2) (j / 2) = s at *
        generalize 2 ^ n = B at *
        rw [and_split 1, Nat.pow_one, h3]
        rw [Nat.mod_eq_of_lt (show B + s - m / 2 - 1 < B by omega)] at hps
        rw [Nat.mod_eq_of_lt (show B * 2 + (2 * s + 0) - m < B * 2 by omega), show (B * 2 + (2 * s + 0) - m) / 2 = B + s - m / 2 - 1 by omega, hps, show (B * 2 + (2 * s + 0) - m) % 2 = 1 by omega]
        simp
      · have ih' := ih (m / 2) (j / 2) hh (by omega)
        have hs := sub_of_and (dep_and n (m / 2) (j / 2))
        rw [h4, show (j + 1) / 2 = j / 2 + 1 by omega, show (j + 1) % 2 = 0 by omega]
        generalize dep n (m / 2) (j / 2) = s at *
        generalize dep n (m / 2) (j / 2 + 1) = s2 at *
        generalize 2 ^ n = B at *
        rw [and_split 1, Nat.pow_one, h3]
        have e : (B * 2 + (2 * s + 1) - m) % (B * 2) / 2 = (B + s - m / 2) % B ∧ (B * 2 + (2 * s + 1) - m) % (B * 2) % 2 = 0 := by
          by_cases hq : s = m / 2
          · rw [show B * 2 + (2 * s + 1) - m = B * 2 by omega, Nat.mod_self, show B + s - m / 2 = B by omega, Nat.mod_self]; exact ⟨rfl, rfl⟩
          · rw [Nat.mod_eq_of_lt (by omega), Nat.mod_eq_of_lt (by omega)]; omega
        rw [e.1, e.2, ih']
        simp

/-- All parts of a mask. -/
def subsL (m : Nat) : List Int := (List.range (2 ^ ones 63 m)).map fun j => ((dep 63 m j : Nat) : Int)

/-- The bits of the parts: dep of an index with a further digit. -/
theorem dep_high (n m j k : Nat) (hj : j < 2 ^ ones k m) (hk : k < n) (hb : m.testBit k = true) : dep n m (j + 2 ^ ones k m) = dep n m j ||| 2 ^ k := by
  induction n generalizing m j k with
  | zero => omega
  | succ n ih =>
    cases k with
    | zero =>
      have hm : m % 2 = 1 := by simpa [Nat.testBit_zero] using hb
      simp only [ones, Nat.pow_zero] at hj ⊢
      have : j = 0 := by omega
      subst this
      simp only [dep]
      rw [if_neg (by omega), if_neg (by omega)]
      simp [dep_zero]
    | succ k =>
      have hb' : (m / 2).testBit k = true := by rw [← Nat.testBit_succ]; exact hb
      simp only [ones] at hj ⊢
      simp only [dep]
      have hor : ∀ a b : Nat, b < 2 → (2 * a + b) ||| 2 ^ (k + 1) = 2 * (a ||| 2 ^ k) + b := by
        intro a b hb2
        apply Nat.eq_of_testBit_eq
        intro i
        cases i with
        | zero =>
          rw [Nat.testBit_or]
          simp only [Nat.testBit_zero]
          have e : 2 ^ (k + 1) % 2 = 0 := by rw [Nat.pow_succ]; omega
          rw [e, show (2 * a + b) % 2 = b % 2 by omega, show (2 * (a ||| 2 ^ k) + b) % 2 = b % 2 by omega]
          simp
        | succ i =>
          rw [Nat.testBit_or]
          simp only [Nat.testBit_succ]
          rw [show (2 * a + b) / 2 = a by omega, show (2 * (a ||| 2 ^ k) + b) / 2 = a ||| 2 ^ k by omega, Nat.testBit_or, show 2 ^ (k + 1) / 2 = 2 ^ k by rw [Nat.pow_succ]; omega]
      rcases Nat.mod_two_eq_zero_or_one m with h3 | h3
      · rw [h3, Nat.zero_add] at hj ⊢
        rw [if_pos rfl, if_pos rfl, ih (m / 2) j k hj (by omega) hb']
        have := hor (dep n (m / 2) j) 0 (by omega)
        simpa using this.symm
      · rw [h3, Nat.add_comm 1, Nat.pow_succ] at hj ⊢
        rw [if_neg (by omega), if_neg (by omega)]
        have e1 : (j + 2 ^ ones k (m / 2) * 2) / 2 = j / 2 + 2 ^ ones k (m / 2) := by omega
        have e2 : (j + 2 ^ ones k (m / 2) * 2) % 2 = j % 2 := by omega
        rw [e1, e2, ih (m / 2) (j / 2) k (by omega) (by omega) hb']
        exact (hor _ _ (by omega)).symm

/-- What doubling makes after the members below k. -/
def subsUpto (m k : Nat) : List Int := (List.range (2 ^ ones k m)).map fun j => ((dep 63 m j : Nat) : Int)
theorem subsUpto_zero (m : Nat) : subsUpto m 0 = [0] := by simp [subsUpto, ones, dep_zero, List.range_succ]
theorem ones_snoc (k m : Nat) : ones (k + 1) m = ones k m + (m / 2 ^ k) % 2 := by
  rw [ones_split k 1]; simp [ones]
theorem subsUpto_length (m k : Nat) : (subsUpto m k).length = 2 ^ ones k m := by simp [subsUpto]

/-- After the first t members of a mask the list is that of the bits below the next one. -/
def subsT (m : Nat) (t : Nat) : List Int := (List.range (2 ^ t)).map fun j => ((dep 63 m j : Nat) : Int)
theorem subsT_zero (m : Nat) : subsT m 0 = [0] := by simp [subsT, dep_zero, List.range_succ]
theorem subsT_length (m t : Nat) : (subsT m t).length = 2 ^ t := by simp [subsT]
theorem subsT_get {m t j : Nat} (h : j < 2 ^ t) : (subsT m t)[j]? = some ((dep 63 m j : Nat) : Int) := by simp [subsT, h]

/-- The member at place t: it is bit k with t members below it. -/
theorem mem_place (m : Nat) (n t : Nat) (i : Int) (h : (bitsUpto m n)[t]? = some i) : ∃ k : Nat, i = k ∧ k < n ∧ m.testBit k = true ∧ ones k m = t := by
  induction n with
  | zero => simp [bitsUpto_zero] at h
  | succ n ih =>
    rw [bitsUpto_succ] at h
    rcases Nat.lt_or_ge t (bitsUpto m n).length with h1 | h1
    · rw [List.getElem?_append_left h1] at h
      obtain ⟨k, h2, h3, h4⟩ := ih h
      exact ⟨k, h2, by omega, h4⟩
    · rw [List.getElem?_append_right h1] at h
      by_cases hb : m.testBit n = true
      · rw [if_pos hb] at h
        have h5 : t - (bitsUpto m n).length = 0 := by
          rcases Nat.eq_zero_or_pos (t - (bitsUpto m n).length) with h5 | h5
          · exact h5
          · rw [List.getElem?_eq_none (by simp; omega)] at h; cases h
        rw [h5] at h
        simp at h
        exact ⟨n, h.symm, by omega, hb, by rw [← bitsUpto_ones]; omega⟩
      · rw [if_neg hb] at h; simp at h

theorem dep_member {m : Nat} {t j : Nat} {i : Int} (h : (membersL m)[t]? = some i) (hj : j < 2 ^ t) : ∃ k : Nat, i = k ∧ k < 63 ∧ dep 63 m (j + 2 ^ t) = dep 63 m j ||| 2 ^ k := by
  obtain ⟨k, h1, h2, h3, h4⟩ := mem_place m 63 t i h
  refine ⟨k, h1, h2, ?_⟩
  have := dep_high 63 m j k (by rw [h4]; exact hj) h2 h3
  rw [h4] at this
  exact this

theorem dep63_lt {m j : Nat} (hm : m < 1073741824) : dep 63 m j < 1073741824 := by
  have := sub_of_and (dep_and 63 m j)
  omega
end Go.Proofs.Ytfedipeabbaccaa
