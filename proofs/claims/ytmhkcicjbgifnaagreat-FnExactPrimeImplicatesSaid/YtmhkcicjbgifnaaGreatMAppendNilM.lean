/- Walks of the masks' functions, each once: what it returns as a plain function of its arguments. -/
import Derived.Test.YtmhkcicjbgifnaaGreatMInts
import Derived.Test.YtmhkcicjbgifnaaGreatMPop
import Derived.Deep.QuietTactic
import Derived.BigQuiet
import Derived.Test.YtmhkcicjbgifnaaGreatMKit

namespace Go.Proofs.YtmhkcicjbgifnaaGreat
open Go.RowKit

def popInt (m : Int) : Int := (ones 64 m.toNat : Nat)

def pI1 (x : Int) : Int := IntKind.u64.wrap (bits BinOp.and IntKind.u64 (x / 2) 6148914691236517205 + bits BinOp.and IntKind.u64 x 6148914691236517205)
def pI2 (x : Int) : Int := IntKind.u64.wrap (bits BinOp.and IntKind.u64 (x / 4) 3689348814741910323 + bits BinOp.and IntKind.u64 x 3689348814741910323)
def pI3 (x : Int) : Int := bits BinOp.and IntKind.u64 (IntKind.u64.wrap (x / 16 + x)) 1085102592571150095
def pI4 (x : Int) : Int := IntKind.u64.wrap (x + x / 256)
def pI5 (x : Int) : Int := IntKind.u64.wrap (x + x / 65536)
def pI6 (x : Int) : Int := IntKind.u64.wrap (x + x / 4294967296)

theorem pI1_nat (x : Nat) (h : x < 2 ^ 64) : pI1 x = ((fld 2 32 x : Nat) : Int) := by
  have hl := fld_lt 2 32 x
  unfold pI1
  have e : ((x : Int) / 2) = ((x / 2 : Nat) : Int) := by simp
  rw [e, show (6148914691236517205 : Int) = ((6148914691236517205 : Nat) : Int) from rfl, u64_and_nat _ _ (by omega) (by omega), u64_and_nat _ _ (by omega) (by omega), ← Int.natCast_add, pop1 x h, IntKind.wrap_u64]
  exact Int.emod_eq_of_lt (by omega) (by omega)

theorem pI2_nat (x : Nat) : pI2 ((fld 2 32 x : Nat) : Int) = ((fld 4 16 x : Nat) : Int) := by
  have hl := fld_lt 4 16 x
  have hl2 := fld_lt 2 32 x
  have hp := pop2 x
  generalize fld 2 32 x = y at *
  unfold pI2
  have e : ((y : Int) / 4) = ((y / 4 : Nat) : Int) := by simp
  rw [e, show (3689348814741910323 : Int) = ((3689348814741910323 : Nat) : Int) from rfl, u64_and_nat _ _ (by omega) (by omega), u64_and_nat _ _ (by omega) (by omega), ← Int.natCast_add, hp, IntKind.wrap_u64]
  exact Int.emod_eq_of_lt (by omega) (by omega)

theorem pI3_nat (x : Nat) (ho : fld 4 16 x < 2 ^ 63) : pI3 ((fld 4 16 x : Nat) : Int) = ((fld 8 8 x : Nat) : Int) := by
  have hp := pop3 x
  generalize fld 4 16 x = y at *
  unfold pI3
  have e : ((y : Int) / 16) = ((y / 16 : Nat) : Int) := by simp
  rw [e, ← Int.natCast_add, IntKind.wrap_u64, Int.emod_eq_of_lt (by omega) (by omega), show (1085102592571150095 : Int) = ((1085102592571150095 : Nat) : Int) from rfl, u64_and_nat _ _ (by omega) (by omega), hp]

/-- Every digit in base 16 is at most 4. -/
theorem fld_small (s n x : Nat) : fld s n x * (2 ^ s - 1) ≤ s * (2 ^ (s * n) - 1) := by
  induction n generalizing x with
  | zero => simp [fld]
  | succ n ih =>
    have h1 := ones_le s (x % 2 ^ s)
    have h2 := ih (x / 2 ^ s)
    rw [fld, Nat.add_mul, Nat.mul_succ, Nat.pow_add, Nat.mul_assoc]
    generalize fld s n (x / 2 ^ s) = Y at *
    have hp : 1 ≤ 2 ^ s := Nat.pow_pos (by omega)
    have hq : 1 ≤ 2 ^ (s * n) := Nat.pow_pos (by omega)
    generalize 2 ^ s = B at *
    generalize 2 ^ (s * n) = Q at *
    have h3 : B * (Y * (B - 1)) ≤ B * (s * (Q - 1)) := Nat.mul_le_mul_left _ h2
    have h4 : ones s (x % B) * (B - 1) ≤ s * (B - 1) := Nat.mul_le_mul_right _ h1
    have h5 : s * (B - 1) + B * (s * (Q - 1)) = s * (Q * B - 1) := by
      obtain ⟨b, rfl⟩ : ∃ b, B = b + 1 := ⟨B - 1, by omega⟩
      obtain ⟨q, rfl⟩ : ∃ q, Q = q + 1 := ⟨Q - 1, by omega⟩
      have : (q + 1) * (b + 1) - 1 = b + (b + 1) * q := by
        rw [Nat.add_mul, Nat.mul_comm q]; omega
      rw [this, Nat.mul_add]
      simp only [Nat.add_sub_cancel]
      congr 1
      rw [← Nat.mul_assoc, ← Nat.mul_assoc, Nat.mul_comm s]
    omega

theorem wrap_add_shift (y k : Nat) (h : y + y / k < 18446744073709551616) : IntKind.u64.wrap ((y : Int) + (y : Int) / (k : Int)) = ((y + y / k : Nat) : Int) := by
  rw [IntKind.wrap_u64]
  have : ((y : Int) / (k : Int)) = ((y / k : Nat) : Int) := by simp
  rw [this, ← Int.natCast_add]
  generalize y + y / k = z at *
  exact Int.emod_eq_of_lt (by omega) (by omega)

theorem pI4_nat (y : Nat) (h : y < 700000000000000000) : pI4 (y : Int) = ((y + y / 256 : Nat) : Int) := wrap_add_shift y 256 (by omega)
theorem pI5_nat (y : Nat) (h : y < 800000000000000000) : pI5 (y : Int) = ((y + y / 65536 : Nat) : Int) := wrap_add_shift y 65536 (by omega)
theorem pI6_nat (y : Nat) (h : y < 900000000000000000) : pI6 (y : Int) = ((y + y / 4294967296 : Nat) : Int) := wrap_add_shift y 4294967296 (by omega)

theorem pop_last (d : Nat) (h : d < 9223372036854775808) : bits BinOp.and IntKind.i64 (wrap64 (d : Int)) 127 = ((d % 128 : Nat) : Int) := by
  have e7 : wrap64 (d : Int) = (d : Int) := IntWalk.wrap64_in _ (by omega)
  rw [e7, show (127 : Int) = ((127 : Nat) : Int) from rfl, i64_and_nat _ _ h (by omega), show (127 : Nat) = 2 ^ 7 - 1 from rfl, Nat.and_two_pow_sub_one_eq_mod]

theorem fld4_lt (x : Nat) : fld 4 16 x < 2 ^ 63 := by
  have hs := fld_small 4 16 x
  rw [show (4 : Nat) * (2 ^ (4 * 16) - 1) = 73786976294838206460 from rfl, show (2 : Nat) ^ 4 - 1 = 15 from rfl] at hs
  omega

theorem fld8_le (x : Nat) : fld 8 8 x ≤ 578721382704613384 := by
  have hs := fld_small 8 8 x
  rw [show (8 : Nat) * (2 ^ (8 * 8) - 1) = 147573952589676412920 from rfl, show (2 : Nat) ^ 8 - 1 = 255 from rfl] at hs
  omega

theorem pop_int (m : Int) (h0 : 0 ≤ m) (h1 : m < 18446744073709551616) : bits BinOp.and IntKind.i64 (wrap64 (pI6 (pI5 (pI4 (pI3 (pI2 (pI1 m))))))) 127 = popInt m := by
  obtain ⟨x, rfl⟩ := Int.eq_ofNat_of_zero_le h0
  have hx : x < 2 ^ 64 := by omega
  have hB := fld8_le x
  rw [pI1_nat x hx, pI2_nat, pI3_nat x (fld4_lt x), pI4_nat _ (by omega), pI5_nat _ (by omega), pI6_nat _ (by omega), pop_last _ (by omega)]
  have hp := Lib.hid (pop_bytes x _ _ rfl rfl)
  generalize fld 8 8 x = y at *
  rw [hp.out]
  rfl


/-- Whether a mask has a member. -/
def hasB (m i : Int) : Bool := m.toNat.testBit i.toNat

theorem has_any (m i : Int) (h0 : 0 ≤ m) (h1 : m < 9223372036854775808) (h2 : 0 ≤ i) (h3 : i ≤ 63) (w : World) :
    Calls Tryz.prog 76 #[.int .i64 m, .int .i64 i] w fun e w' => e = .returned (.bool (hasB m i)) ∧ w = w' := by
  have hp := Lib.hid (has_bit m i h0 h1)
  clear h1
  go_enter Tryz.func76, Tryz.ntmps76
  go_wp2
  go_ret
  exact ⟨ret_bool hp.out, rfl⟩

def inR (x a b : Int) : Bool := decide (a ≤ x ∧ x ≤ b)
theorem inR_yes {x a b : Int} (h1 : a ≤ x) (h2 : x ≤ b) : inR x a b = true := by simp [inR, h1, h2]
theorem inR_lo {x a b : Int} (h : x < a) : inR x a b = false := by simp [inR]; omega
theorem inR_hi {x a b : Int} (h : b < x) : inR x a b = false := by simp [inR]; omega
theorem inR_iff {x a b : Int} : inR x a b = true ↔ a ≤ x ∧ x ≤ b := by simp [inR]
theorem inR_no {x a b : Int} : inR x a b = false ↔ x < a ∨ b < x := by
  have := @inR_iff x a b
  cases h : inR x a b
  · simp [h] at this; simp; omega
  · simp [h] at this; simp; omega

theorem inRange_any (x a b : Int) (w : World) :
    Calls Tryz.prog 105 #[.int .i64 x, .int .i64 a, .int .i64 b] w fun e w' => e = .returned (.bool (inR x a b)) ∧ w = w' := by
  by_cases h1 : a ≤ x
  · by_cases h2 : x ≤ b
    all_goals
      go_enter Tryz.func105, Tryz.ntmps105
      go_wp2
      go_ret
      exact ⟨ret_bool (by simp [inR]; omega), rfl⟩
  · go_enter Tryz.func105, Tryz.ntmps105
    go_wp2
    go_ret
    exact ⟨ret_bool (by simp [inR]; omega), rfl⟩

theorem l01In_any (x a b : Int) (w : World) :
    Calls Tryz.prog 90 #[.int .i64 x, .int .i64 a, .int .i64 b] w fun e w' => e = .returned (.bool (inR x a b)) ∧ w = w' := by
  by_cases h1 : a ≤ x
  · by_cases h2 : x ≤ b
    all_goals
      go_enter Tryz.func90, Tryz.ntmps90
      go_wp2
      go_ret
      exact ⟨ret_bool (by simp [inR]; omega), rfl⟩
  · go_enter Tryz.func90, Tryz.ntmps90
    go_wp2
    go_ret
    exact ⟨ret_bool (by simp [inR]; omega), rfl⟩

/-- 2^n - 1 for n from 0 to 62. -/
def full (n : Int) : Int := 2 ^ n.toNat - 1

theorem pow_bounds (n : Int) (k : Nat) (h : n ≤ k) : 1 ≤ (2 : Int) ^ n.toNat ∧ (2 : Int) ^ n.toNat ≤ 2 ^ k := by
  have h1 : (2 : Nat) ^ n.toNat ≤ 2 ^ k := Nat.pow_le_pow_right (by omega) (by omega)
  have h2 : 1 ≤ (2 : Nat) ^ n.toNat := Nat.pow_pos (by omega)
  have e : ((2 : Int) ^ n.toNat) = ((2 ^ n.toNat : Nat) : Int) := by simp
  have e2 : ((2 : Int) ^ k) = ((2 ^ k : Nat) : Int) := by simp
  rw [e, e2]
  omega

theorem full_bounds (n : Int) (h : n ≤ 62) : 0 ≤ full n ∧ full n < 4611686018427387904 := by
  have := pow_bounds n 62 (by omega)
  unfold full
  have e : (2 : Int) ^ 62 = 4611686018427387904 := by decide
  omega



/-- Whether m is a mask of n elements. -/
def isMaskB (n m : Int) : Bool := inR n 0 30 && inR m 0 (full n)




/-- The error for a mask of n elements. -/
def maskCode (n m : Int) : Int := if inR n 0 30 then if inR m 0 (full n) then 0 else 1 else 2


end Go.Proofs.YtmhkcicjbgifnaaGreat

/- Walks of IsClause, of the program and of the reference. -/
namespace Go.Proofs.YtmhkcicjbgifnaaGreat
open Go.RowKit

/-- Whether element k of a list may stand in a clause, given the one before it. -/
def okAt (xs : List Int) (k : Nat) : Bool :=
  match xs[k]? with
  | none => true
  | some x => inR x 0 11 && (match k with | 0 => true | j + 1 => match xs[j]? with | none => true | some y => decide (y / 2 < x / 2))

def clauseB (xs : List Int) : Bool := (List.range xs.length).all (okAt xs)

theorem clause_no {xs : List Int} {k : Nat} (hk : k < xs.length) (h : okAt xs k = false) : clauseB xs = false := by
  unfold clauseB
  rw [List.all_eq_false]
  exact ⟨k, by simpa using hk, by simp [h]⟩

theorem clause_yes {xs : List Int} (h : ∀ i, i < xs.length → okAt xs i = true) : clauseB xs = true := by
  unfold clauseB
  rw [List.all_eq_true]
  intro i hi
  exact h i (by simpa using hi)

theorem clause_iff {xs : List Int} : clauseB xs = true ↔ ∀ i, i < xs.length → okAt xs i = true := by
  constructor
  · intro h i hi
    cases h2 : okAt xs i
    · rw [clause_no hi h2] at h; cases h
    · rfl
  · exact clause_yes

theorem okAt_zero {xs : List Int} {x : Int} (hx : xs[0]? = some x) : okAt xs 0 = inR x 0 11 := by simp [okAt, hx]
theorem okAt_succ {xs : List Int} {j : Nat} {x y : Int} (hx : xs[j + 1]? = some x) (hy : xs[j]? = some y) : okAt xs (j + 1) = (inR x 0 11 && decide (y / 2 < x / 2)) := by simp [okAt, hx, hy]
theorem okAt_in {xs : List Int} {k : Nat} {x : Int} (hx : xs[k]? = some x) (h : okAt xs k = true) : 0 ≤ x ∧ x ≤ 11 := by
  simp only [okAt, hx, Bool.and_eq_true] at h
  exact inR_iff.1 h.1
theorem okAt_out {xs : List Int} {k : Nat} {x : Int} (hx : xs[k]? = some x) (h : inR x 0 11 = false) : okAt xs k = false := by simp [okAt, hx, h]



end Go.Proofs.YtmhkcicjbgifnaaGreat

/- 'append' of a nil slice: nothing happens. -/
namespace Go.Proofs.YtmhkcicjbgifnaaGreat
open Go.RowKit

theorem run_append_none {P : Program} {w : World} (t ty e : TypeId) (i : TypeInfo) (ht : P.underlying t = some (.slice e)) (hi : P.info? e = some i) (b : Option Addr) (n c c' : Nat) (hnc : n ≤ c) :
    (Builtin.append_ #[t, t] ty #[.slice b n c, .slice none 0 c']).run P w = .ok (.slice b n c) w := by
  cases b with
  | none => simp [Builtin.append_, run_underlying ht, sizeOf, typeInfo, hi, Builtin.lenOf, hnc, Builtin.firstCells]
  | some a => simp [Builtin.append_, run_underlying ht, sizeOf, typeInfo, hi, Builtin.lenOf, hnc, Builtin.firstCells, storeCells]

theorem wpList_append_none {P : Program} {w : World} {ops : Array Oper} {rest : List Oper} {o : Oper} {a : Act} {Q : Exit → Act → World → Prop} (hgd : o.guard = none) (s x : Operand) (t : TypeId)
    (ho : o.op = .call { callee := .builtin .append, args := #[s, x], argTypes := #[t, t] })
    (e : TypeId) (i : TypeInfo) (ht : P.underlying t = some (.slice e)) (hi : P.info? e = some i) (b : Option Addr) (n c c' : Nat) (hs : a.eval s = .slice b n c) (hx : a.eval x = .slice none 0 c') (hnc : n ≤ c)
    (h : wpList P ops Q rest (a.put o.dst (.slice b n c)) w) : wpList P ops Q (o :: rest) a w :=
  wpList_plain hgd fun _ hK => by
    have hr := run_append_none (P := P) (w := w) t o.type e i ht hi b n c c' hnc
    unfold Oper.wp execOp
    simp only [ho, resolve, invoke, builtin, Sem.run_bind, Sem.run_pure, Result.andThen_ok, List.map_toArray, List.map_cons, List.map_nil, hs, hx, hr]
    exact hK _ _ h
end Go.Proofs.YtmhkcicjbgifnaaGreat
