/- math/bits.OnesCount64 counts the bits: the arithmetic of its text. -/
import Derived.Test.YtmhkcicjbgifnaaGreatMBits
import Derived.Laws.BitsAllLaws

namespace Go.Proofs.YtmhkcicjbgifnaaGreat
open Go.RowKit

/-- A number whose digits in base 2^s count the bits of x's digits. -/
def fld (s : Nat) : Nat → Nat → Nat
  | 0, _ => 0
  | n + 1, x => ones s (x % 2 ^ s) + 2 ^ s * fld s n (x / 2 ^ s)

/-- The mask with the low c of each digit in base b. -/
def msk (b c : Nat) : Nat → Nat
  | 0 => 0
  | n + 1 => c + b * msk b c n

theorem fld_one (n x : Nat) (h : x < 2 ^ n) : fld 1 n x = x := by
  induction n generalizing x with
  | zero => simp at h; subst h; rfl
  | succ n ih =>
    rw [fld, ih (x / 2 ^ 1) (by rw [Nat.pow_succ] at h; simp; omega)]
    simp only [ones]
    omega

/-- Two neighbouring digits are added: 'x>>s & m + x & m'. -/
theorem fld_step (s n x : Nat) :
    ((fld s (2 * n) x / 2 ^ s) &&& msk (2 ^ (2 * s)) (2 ^ s - 1) n) + (fld s (2 * n) x &&& msk (2 ^ (2 * s)) (2 ^ s - 1) n) = fld (2 * s) n x := by
  have hs : s < 2 ^ s := Nat.lt_two_pow_self
  induction n generalizing x with
  | zero => simp [fld, msk]
  | succ n ih =>
    have hp : 0 < 2 ^ s := Nat.pow_pos (by omega)
    have h2 : 2 ^ (2 * s) = 2 ^ s * 2 ^ s := by rw [Nat.two_mul, Nat.pow_add]
    have hd0 := ones_le s (x % 2 ^ s)
    have hd1 := ones_le s (x / 2 ^ s % 2 ^ s)
    have hy : fld s (2 * (n + 1)) x = ones s (x % 2 ^ s) + 2 ^ s * ones s (x / 2 ^ s % 2 ^ s) + 2 ^ (2 * s) * fld s (2 * n) (x / 2 ^ (2 * s)) := by
      rw [show 2 * (n + 1) = (2 * n + 1) + 1 by omega, fld, fld, Nat.div_div_eq_div_mul, ← h2, Nat.mul_add, ← Nat.mul_assoc, ← h2]
      omega
    have hone : ones (2 * s) (x % 2 ^ (2 * s)) = ones s (x % 2 ^ s) + ones s (x / 2 ^ s % 2 ^ s) := by
      rw [ones_mod, show 2 * s = s + s by omega, ones_split, ones_mod, ones_mod]
    generalize hY : fld s (2 * n) (x / 2 ^ (2 * s)) = Y at *
    have ihx := ih (x / 2 ^ (2 * s))
    rw [hY] at ihx
    rw [hy, fld, hone, ← ihx, and_split (2 * s)]
    conv => lhs; rhs; rw [and_split (2 * s)]
    generalize ones s (x % 2 ^ s) = d0 at *
    generalize ones s (x / 2 ^ s % 2 ^ s) = d1 at *
    rw [msk]
    generalize msk (2 ^ (2 * s)) (2 ^ s - 1) n = M at *
    have hq : 2 * s < 2 ^ (2 * s) := Nat.lt_two_pow_self
    have hsm : d0 + 2 ^ s * d1 < 2 ^ (2 * s) := by
      have : 2 ^ s * d1 + 2 ^ s ≤ 2 ^ s * 2 ^ s := by rw [← Nat.mul_succ]; exact Nat.mul_le_mul_left _ (by omega)
      omega
    have hc : 2 ^ s - 1 < 2 ^ (2 * s) := by
      have : 2 ^ s * 1 ≤ 2 ^ s * 2 ^ s := Nat.mul_le_mul_left _ (by omega)
      omega
    have a1 : (2 ^ s - 1 + 2 ^ (2 * s) * M) / 2 ^ (2 * s) = M := by
      rw [Nat.add_mul_div_left _ _ (by omega), Nat.div_eq_of_lt hc]; omega
    have a2 : (2 ^ s - 1 + 2 ^ (2 * s) * M) % 2 ^ (2 * s) = 2 ^ s - 1 := by
      rw [Nat.add_mul_mod_self_left, Nat.mod_eq_of_lt hc]
    have b1 : (d0 + 2 ^ s * d1 + 2 ^ (2 * s) * Y) / 2 ^ (2 * s) = Y := by
      rw [Nat.add_mul_div_left _ _ (by omega), Nat.div_eq_of_lt hsm]; omega
    have b2 : (d0 + 2 ^ s * d1 + 2 ^ (2 * s) * Y) % 2 ^ (2 * s) = d0 + 2 ^ s * d1 := by
      rw [Nat.add_mul_mod_self_left, Nat.mod_eq_of_lt hsm]
    have c0 : (d0 + 2 ^ s * d1 + 2 ^ (2 * s) * Y) / 2 ^ s = d1 + 2 ^ s * Y := by
      rw [h2, Nat.mul_assoc, Nat.add_assoc, ← Nat.mul_add, Nat.add_mul_div_left _ _ hp, Nat.div_eq_of_lt (by omega)]; omega
    have c1 : (d1 + 2 ^ s * Y) / 2 ^ (2 * s) = Y / 2 ^ s := by
      rw [h2, ← Nat.div_div_eq_div_mul, Nat.add_mul_div_left _ _ hp, Nat.div_eq_of_lt (show d1 < 2 ^ s by omega), Nat.zero_add]
    have c2 : ((d1 + 2 ^ s * Y) % 2 ^ (2 * s)) &&& (2 ^ s - 1) = d1 := by
      rw [Nat.and_two_pow_sub_one_eq_mod, Nat.mod_mod_of_dvd _ ⟨2 ^ s, h2⟩, Nat.add_mul_mod_self_left, Nat.mod_eq_of_lt (by omega)]
    have c3 : (d0 + 2 ^ s * d1) &&& (2 ^ s - 1) = d0 := by
      rw [Nat.and_two_pow_sub_one_eq_mod, Nat.add_mul_mod_self_left, Nat.mod_eq_of_lt (by omega)]
    rw [a1, a2, b1, b2, c0, c1, c2, c3]
    rw [Nat.mul_add]
    omega

theorem fld_lt (s n x : Nat) : fld s n x < 2 ^ (s * n) := by
  have hs : s < 2 ^ s := Nat.lt_two_pow_self
  induction n generalizing x with
  | zero => simp [fld]
  | succ n ih =>
    have := ih (x / 2 ^ s)
    have h1 := ones_le s (x % 2 ^ s)
    rw [fld, Nat.mul_succ, Nat.pow_add, Nat.mul_comm (2 ^ (s * n))]
    have : 2 ^ s * fld s n (x / 2 ^ s) + 2 ^ s ≤ 2 ^ s * 2 ^ (s * n) := by rw [← Nat.mul_succ]; exact Nat.mul_le_mul_left _ (by omega)
    omega

theorem fld_8 (x : Nat) : fld 8 8 x = ones 8 (x % 256) + 256 * (ones 8 (x / 256 % 256) + 256 * (ones 8 (x / 65536 % 256) + 256 * (ones 8 (x / 16777216 % 256) + 256 * (ones 8 (x / 4294967296 % 256) + 256 * (ones 8 (x / 1099511627776 % 256) + 256 * (ones 8 (x / 281474976710656 % 256) + 256 * ones 8 (x / 72057594037927936 % 256))))))) := by
  simp only [fld, Nat.div_div_eq_div_mul, Nat.mul_zero, Nat.add_zero, Nat.reducePow, Nat.reduceMul]

theorem ones_64 (x : Nat) : ones 64 x = ones 8 (x % 256) + ones 8 (x / 256 % 256) + ones 8 (x / 65536 % 256) + ones 8 (x / 16777216 % 256) + ones 8 (x / 4294967296 % 256) + ones 8 (x / 1099511627776 % 256) + ones 8 (x / 281474976710656 % 256) + ones 8 (x / 72057594037927936 % 256) := by
  have hm : ∀ y, ones 8 (y % 256) = ones 8 y := fun y => ones_mod 8 y
  simp only [hm]
  have h1 : ones 64 x = ones 8 x + ones 56 (x / 256) := ones_split 8 56 x
  have h2 : ones 56 (x / 256) = ones 8 (x / 256) + ones 48 (x / 256 / 256) := ones_split 8 48 _
  have h3 : ones 48 (x / 65536) = ones 8 (x / 65536) + ones 40 (x / 65536 / 256) := ones_split 8 40 _
  have h4 : ones 40 (x / 16777216) = ones 8 (x / 16777216) + ones 32 (x / 16777216 / 256) := ones_split 8 32 _
  have h5 : ones 32 (x / 4294967296) = ones 8 (x / 4294967296) + ones 24 (x / 4294967296 / 256) := ones_split 8 24 _
  have h6 : ones 24 (x / 1099511627776) = ones 8 (x / 1099511627776) + ones 16 (x / 1099511627776 / 256) := ones_split 8 16 _
  have h7 : ones 16 (x / 281474976710656) = ones 8 (x / 281474976710656) + ones 8 (x / 281474976710656 / 256) := ones_split 8 8 _
  rw [Nat.div_div_eq_div_mul] at h2 h3 h4 h5 h6 h7
  rw [h1, h2, h3, h4, h5, h6, h7]
  simp only [Nat.add_assoc]

theorem bytes_sum (b0 b1 b2 b3 b4 b5 b6 b7 : Nat) (g0 : b0 ≤ 8) (g1 : b1 ≤ 8) (g2 : b2 ≤ 8) (g3 : b3 ≤ 8) (g4 : b4 ≤ 8) (g5 : b5 ≤ 8) (g6 : b6 ≤ 8) (g7 : b7 ≤ 8) (X A C : Nat)
    (hX : X = b0 + 256 * (b1 + 256 * (b2 + 256 * (b3 + 256 * (b4 + 256 * (b5 + 256 * (b6 + 256 * b7))))))) (hA : A = X + X / 256) (hC : C = A + A / 65536) : (C + C / 4294967296) % 128 = b0 + b1 + b2 + b3 + b4 + b5 + b6 + b7 := by
  obtain ⟨T6, e6⟩ : ∃ T, T = b6 + 256 * b7 := ⟨_, rfl⟩
  rw [← e6] at hX
  obtain ⟨T5, e5⟩ : ∃ T, T = b5 + 256 * T6 := ⟨_, rfl⟩
  rw [← e5] at hX
  obtain ⟨T4, e4⟩ : ∃ T, T = b4 + 256 * T5 := ⟨_, rfl⟩
  rw [← e4] at hX
  obtain ⟨T3, e3⟩ : ∃ T, T = b3 + 256 * T4 := ⟨_, rfl⟩
  rw [← e3] at hX
  obtain ⟨T2, e2⟩ : ∃ T, T = b2 + 256 * T3 := ⟨_, rfl⟩
  rw [← e2] at hX
  obtain ⟨T1, e1⟩ : ∃ T, T = b1 + 256 * T2 := ⟨_, rfl⟩
  rw [← e1] at hX
  have q1 : X / 256 = T1 := by clear hA hC e1 e2 e3 e4 e5 e6; omega
  have q2 : A / 65536 = T2 + T3 := by
    have f : A = (b0 + b1) + 256 * (b1 + b2) + 65536 * (T2 + T3) := by clear hC e3 e4 e5 e6; omega
    clear hA hC e1 e2 e3 e4 e5 e6 hX q1
    omega
  have f : C = (b0 + b1 + b2 + b3) + 256 * (T1 + T2 + T3 + T4) := by clear e4 e5 e6; omega
  clear hX hA hC q1 q2
  obtain ⟨U, eU⟩ : ∃ U, U = T2 + T3 + T4 + T5 := ⟨_, rfl⟩
  obtain ⟨V, eV⟩ : ∃ V, V = T3 + T4 + T5 + T6 := ⟨_, rfl⟩
  obtain ⟨Y, eY⟩ : ∃ Y, Y = T4 + T5 + T6 + b7 := ⟨_, rfl⟩
  have f1 : T1 + T2 + T3 + T4 = (b1 + b2 + b3 + b4) + 256 * U := by clear f eV eY e5 e6; omega
  have f2 : U = (b2 + b3 + b4 + b5) + 256 * V := by clear f f1 eY e1 e6; omega
  have f3 : V = (b3 + b4 + b5 + b6) + 256 * Y := by clear f f1 f2 eU e1 e2; omega
  have f4 : Y = (b4 + b5 + b6 + b7) + 256 * (T5 + T6 + b7) := by clear f f1 f2 f3 eU eV e1 e2 e3; omega
  rw [f1] at f
  clear f1 eU eV eY e1 e2 e3 e4 e5 e6
  have q3 : C / 4294967296 = Y := by clear f4; omega
  rw [q3, f, f4]
  generalize T5 + T6 + b7 = Z
  clear f f2 f3 f4 q3
  omega

/-- The digits in base 16 added two by two, by one mask. -/
theorem fld_add16 (n x : Nat) : (fld 4 (2 * n) x / 16 + fld 4 (2 * n) x) &&& msk 256 15 n = fld 8 n x := by
  induction n generalizing x with
  | zero => simp [fld, msk]
  | succ n ih =>
    have hd0 := ones_le 4 (x % 2 ^ 4)
    have hd1 := ones_le 4 (x / 2 ^ 4 % 2 ^ 4)
    have hy : fld 4 (2 * (n + 1)) x = ones 4 (x % 2 ^ 4) + 16 * ones 4 (x / 2 ^ 4 % 2 ^ 4) + 256 * fld 4 (2 * n) (x / 2 ^ 8) := by
      rw [show 2 * (n + 1) = (2 * n + 1) + 1 by omega, fld, fld, Nat.div_div_eq_div_mul]
      simp only [Nat.reducePow, Nat.reduceMul]
      omega
    have hone : ones 8 (x % 2 ^ 8) = ones 4 (x % 2 ^ 4) + ones 4 (x / 2 ^ 4 % 2 ^ 4) := by
      rw [ones_mod, show 8 = 4 + 4 from rfl, ones_split, ones_mod, ones_mod]
    have hdig : fld 4 (2 * n) (x / 2 ^ 8) % 16 ≤ 4 := by
      cases n with
      | zero => simp [fld]
      | succ m =>
        rw [show 2 * (m + 1) = (2 * m + 1) + 1 by omega, fld]
        have := ones_le 4 (x / 2 ^ 8 % 2 ^ 4)
        omega
    have ihx := ih (x / 2 ^ 8)
    generalize fld 4 (2 * n) (x / 2 ^ 8) = Y at *
    rw [hy, fld, hone, ← ihx, and_split 8]
    generalize ones 4 (x % 2 ^ 4) = d0 at *
    generalize ones 4 (x / 2 ^ 4 % 2 ^ 4) = d1 at *
    rw [msk]
    generalize msk 256 15 n = M at *
    have a1 : (15 + 256 * M) / 2 ^ 8 = M := by omega
    have a2 : (15 + 256 * M) % 2 ^ 8 = 15 := by omega
    have b1 : ((d0 + 16 * d1 + 256 * Y) / 16 + (d0 + 16 * d1 + 256 * Y)) / 2 ^ 8 = Y / 16 + Y := by omega
    have b2 : ((d0 + 16 * d1 + 256 * Y) / 16 + (d0 + 16 * d1 + 256 * Y)) % 2 ^ 8 % 16 = d0 + d1 := by omega
    rw [a1, a2, b1, show (15 : Nat) = 2 ^ 4 - 1 from rfl, Nat.and_two_pow_sub_one_eq_mod, show (2 : Nat) ^ 4 = 16 from rfl, b2]
    omega

theorem pop1 (x : Nat) (h : x < 2 ^ 64) : (x / 2 &&& 6148914691236517205) + (x &&& 6148914691236517205) = fld 2 32 x := by
  have h1 : msk (2 ^ (2 * 1)) (2 ^ 1 - 1) 32 = 6148914691236517205 := by decide +kernel
  have h2 : fld 1 (2 * 32) x = x := fld_one (2 * 32) x h
  have := fld_step 1 32 x
  rw [h1, h2, Nat.pow_one, Nat.mul_one] at this
  exact this

theorem pop2 (x : Nat) : (fld 2 32 x / 4 &&& 3689348814741910323) + (fld 2 32 x &&& 3689348814741910323) = fld 4 16 x := by
  have h1 : msk (2 ^ (2 * 2)) (2 ^ 2 - 1) 16 = 3689348814741910323 := by decide +kernel
  have := fld_step 2 16 x
  rw [h1, show (2 : Nat) ^ 2 = 4 from rfl, show 2 * 2 = 4 from rfl, show 2 * 16 = 32 from rfl] at this
  exact this

theorem pop3 (x : Nat) : (fld 4 16 x / 16 + fld 4 16 x) &&& 1085102592571150095 = fld 8 8 x := by
  have h1 : msk 256 15 8 = 1085102592571150095 := by decide +kernel
  have := fld_add16 8 x
  rw [h1, show 2 * 8 = 16 from rfl] at this
  exact this

theorem pop_bytes (x A C : Nat) (hA : A = fld 8 8 x + fld 8 8 x / 256) (hC : C = A + A / 65536) : (C + C / 4294967296) % 128 = ones 64 x := by
  rw [ones_64]
  exact bytes_sum _ _ _ _ _ _ _ _ (ones_le 8 _) (ones_le 8 _) (ones_le 8 _) (ones_le 8 _) (ones_le 8 _) (ones_le 8 _) (ones_le 8 _) (ones_le 8 _) _ A C (fld_8 x) hA hC

end Go.Proofs.YtmhkcicjbgifnaaGreat
