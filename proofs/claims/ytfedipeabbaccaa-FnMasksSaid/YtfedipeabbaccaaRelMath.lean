/- Plain arithmetic of relations on masks: images, boxes, inverses, closures. No program is named here. -/
import Derived.Test.YtfedipeabbaccaaMembers
import Derived.Test.YtfedipeabbaccaaFuncs
namespace Go.Proofs.Ytfedipeabbaccaa
open Go.RowKit

/-- Two masks joined. -/
theorem or30 (a b : Int) (h1 : 0 ≤ a) (h2 : a < 1073741824) (h3 : 0 ≤ b) (h4 : b < 1073741824) :
    bits BinOp.or IntKind.i64 a b = ((a.toNat ||| b.toNat : Nat) : Int) ∧ 0 ≤ bits BinOp.or IntKind.i64 a b ∧ bits BinOp.or IntKind.i64 a b < 1073741824 := by
  have hr : a.toNat ||| b.toNat < 2 ^ 30 := Nat.or_lt_two_pow (by omega) (by omega)
  rw [i64_or _ _ h1 (by omega) h3 (by omega)]
  refine ⟨rfl, by omega, by omega⟩

theorem or30_pow (a : Int) (k : Nat) (h1 : 0 ≤ a) (h2 : a < 1073741824) (h3 : k ≤ 29) :
    bits BinOp.or IntKind.i64 a (2 ^ k) = ((a.toNat ||| 2 ^ k : Nat) : Int) ∧ 0 ≤ bits BinOp.or IntKind.i64 a (2 ^ k) ∧ bits BinOp.or IntKind.i64 a (2 ^ k) < 1073741824 := by
  have hq : (2 : Nat) ^ k ≤ 2 ^ 29 := Nat.pow_le_pow_right (by omega) h3
  have hp : 1 ≤ (2 : Nat) ^ k := Nat.pow_pos (by omega)
  have e : ((2 : Int) ^ k) = ((2 ^ k : Nat) : Int) := by simp
  rw [e]
  have := or30 a ((2 ^ k : Nat) : Int) h1 h2 (by omega) (by omega)
  rw [Int.toNat_natCast] at this
  exact this

theorem pow_nat_bounds (k : Nat) (h : k ≤ 29) : 1 ≤ (2 : Int) ^ k ∧ (2 : Int) ^ k ≤ 536870912 := by
  have hq : (2 : Nat) ^ k ≤ 2 ^ 29 := Nat.pow_le_pow_right (by omega) h
  have hp : 1 ≤ (2 : Nat) ^ k := Nat.pow_pos (by omega)
  have e : ((2 : Int) ^ k) = ((2 ^ k : Nat) : Int) := by simp
  omega

/-- The union of the rows whose numbers are listed. -/
def orAt (xs l : List Int) : Nat := l.foldl (fun acc i => acc ||| (xs.getD i.toNat 0).toNat) 0

theorem orAt_snoc (xs l : List Int) (i x : Int) (hx : xs[i.toNat]? = some x) : orAt xs (l ++ [i]) = orAt xs l ||| x.toNat := by
  simp [orAt, List.foldl_append, List.getD, hx]

theorem orAt_take {xs l : List Int} {j : Nat} {i x : Int} (hi : l[j]? = some i) (hx : xs[i.toNat]? = some x) : orAt xs (l.take (j + 1)) = orAt xs (l.take j) ||| x.toNat := by
  have e : l.take (j + 1) = l.take j ++ [i] := by rw [List.take_add_one, hi]; rfl
  rw [e, orAt_snoc xs _ i x hx]

/-- The image of a mask under a relation. -/
def imgR (xs : List Int) (m : Int) : Int := (orAt xs (mem m) : Nat)

theorem img_yes {xs : List Int} {m : Int} {k : Nat} {x : Int} (h : hasB m k = true) (hx : xs[k]? = some x) : orAt xs (bitsUpto m.toNat (k + 1)) = orAt xs (bitsUpto m.toNat k) ||| x.toNat := by
  have h' : m.toNat.testBit k = true := by simpa [hasB] using h
  rw [bitsUpto_succ, if_pos h', orAt_snoc xs _ (k : Int) x (by simpa using hx)]

theorem img_no {xs : List Int} {m : Int} {k : Nat} (h : hasB m k = false) : orAt xs (bitsUpto m.toNat (k + 1)) = orAt xs (bitsUpto m.toNat k) := by
  have h' : m.toNat.testBit k = false := by simpa [hasB] using h
  rw [bitsUpto_succ, h']
  simp

theorem mem_end {m : Int} {n : Nat} (h1 : m.toNat < 2 ^ n) (hn : n ≤ 63) : bitsUpto m.toNat n = mem m := by
  unfold mem membersL
  rw [bitsUpto_end m.toNat n 63 h1 hn]

theorem mem_lt {m : Int} {n : Nat} (h1 : m.toNat < 2 ^ n) (hn : n ≤ 63) {j : Nat} {i : Int} (hi : (mem m)[j]? = some i) : 0 ≤ i ∧ i < n ∧ hasB m i = true := by
  rw [← mem_end h1 hn] at hi
  have h2 := (bitsUpto_mem m.toNat n i).1 (List.mem_of_getElem? hi)
  obtain ⟨a, rfl, h3, h4⟩ := h2
  exact ⟨by omega, by omega, by simpa [hasB] using h4⟩

theorem mem_has {m : Int} {n : Nat} (h1 : m.toNat < 2 ^ n) (hn : n ≤ 63) (i : Nat) : ((i : Int) ∈ mem m) ↔ hasB m i = true := by
  unfold mem
  rw [membersL_mem _ (Nat.lt_of_lt_of_le h1 (Nat.pow_le_pow_right (by omega) hn))]
  simp only [hasB, Int.toNat_natCast]
  constructor
  · rintro ⟨j, h, h2⟩
    have : i = j := by omega
    rw [this]; exact h2
  · intro h; exact ⟨i, rfl, h⟩

/-- Whether all members of a mask belong to another one. -/
def wiB (a b : Int) : Bool := decide (a.toNat &&& b.toNat = a.toNat)

theorem and_eq_wi (a b : Int) (h1 : 0 ≤ a) (h2 : a < 9223372036854775808) (h3 : 0 ≤ b) (h4 : b < 9223372036854775808) : (bits BinOp.and IntKind.i64 a b == a) = wiB a b := by
  rw [i64_and a b h1 h2 h3 h4, Bool.eq_iff_iff]
  unfold wiB
  simp only [beq_iff_eq, decide_eq_true_eq]
  omega

theorem i64_andNot (a b : Int) (h1 : 0 ≤ a) (h2 : a < 9223372036854775808) (h3 : 0 ≤ b) (h4 : b < 9223372036854775808) : bits .andNot .i64 a b = ((a.toNat &&& (18446744073709551615 - b.toNat) : Nat) : Int) := by
  obtain ⟨A, rfl⟩ := Int.eq_ofNat_of_zero_le h1
  obtain ⟨B, rfl⟩ := Int.eq_ofNat_of_zero_le h3
  have hx : A &&& (18446744073709551615 - B) < 2 ^ 63 := Nat.lt_of_le_of_lt Nat.and_le_left (by omega)
  show IntKind.i64.wrap ((BitVec.ofInt 64 (A : Int) &&& ~~~ BitVec.ofInt 64 (B : Int)).toNat : Int) = _
  rw [BitVec.toNat_and, BitVec.toNat_not, i64_ofInt A (by omega), i64_ofInt B (by omega), IntKind.wrap_i64]
  simp only [Int.toNat_natCast]
  have e : 2 ^ 64 - 1 - B = 18446744073709551615 - B := rfl
  rw [e]
  omega

theorem andNot_wi (a b : Int) (h1 : 0 ≤ a) (h2 : a < 9223372036854775808) (h3 : 0 ≤ b) (h4 : b < 9223372036854775808) : (bits BinOp.andNot IntKind.i64 a b == 0) = wiB a b := by
  rw [i64_andNot a b h1 h2 h3 h4, Bool.eq_iff_iff]
  unfold wiB
  simp only [beq_iff_eq, decide_eq_true_eq]
  obtain ⟨A, rfl⟩ := Int.eq_ofNat_of_zero_le h1
  obtain ⟨B, rfl⟩ := Int.eq_ofNat_of_zero_le h3
  simp only [Int.toNat_natCast]
  have hb : ∀ i, (18446744073709551615 - B).testBit i = (decide (i < 64) && !B.testBit i) := fun i => by
    have := Nat.testBit_two_pow_sub_succ (x := B) (n := 64) (by omega) i
    rw [show 2 ^ 64 - (B + 1) = 18446744073709551615 - B by omega] at this
    exact this
  have ha : ∀ i, 64 ≤ i → A.testBit i = false := fun i hi => Nat.testBit_lt_two_pow (Nat.lt_of_lt_of_le (show A < 2 ^ 64 by omega) (Nat.pow_le_pow_right (by omega) hi))
  constructor
  · intro h
    have h : A &&& (18446744073709551615 - B) = 0 := by omega
    apply Nat.eq_of_testBit_eq
    intro i
    have h2 := congrArg (·.testBit i) h
    simp only [Nat.testBit_and, hb, Nat.zero_testBit] at h2 ⊢
    rcases Nat.lt_or_ge i 64 with h3 | h3
    · simp only [h3, decide_true, Bool.true_and] at h2
      cases hA : A.testBit i <;> cases hB : B.testBit i <;> simp_all
    · rw [ha i h3]; simp
  · intro h
    have : A &&& (18446744073709551615 - B) = 0 := by
      apply Nat.eq_of_testBit_eq
      intro i
      have h2 := congrArg (·.testBit i) h
      simp only [Nat.testBit_and, hb, Nat.zero_testBit] at h2 ⊢
      rcases Nat.lt_or_ge i 64 with h3 | h3
      · simp only [h3, decide_true, Bool.true_and]
        cases hA : A.testBit i <;> cases hB : B.testBit i <;> simp_all
      · rw [ha i h3]; simp
    rw [this]; rfl

/-- The elements below k that are related to members of a mask alone. -/
def boxUpto (xs : List Int) (m : Int) (k : Nat) : Nat := (List.range k).foldl (fun acc i => if wiB (xs.getD i 0) m then acc ||| 2 ^ i else acc) 0
def boxR (xs : List Int) (m : Int) : Int := (boxUpto xs m xs.length : Nat)
theorem box_yes {xs : List Int} {m : Int} {k : Nat} {x : Int} (hx : xs[k]? = some x) (h : wiB x m = true) : boxUpto xs m (k + 1) = boxUpto xs m k ||| 2 ^ k := by
  simp [boxUpto, List.range_succ, List.foldl_append, List.getD, hx, h]
theorem box_no {xs : List Int} {m : Int} {k : Nat} {x : Int} (hx : xs[k]? = some x) (h : wiB x m = false) : boxUpto xs m (k + 1) = boxUpto xs m k := by
  simp [boxUpto, List.range_succ, List.foldl_append, List.getD, hx, h]

/-- Which of the first k rows hold i. -/
def col (xs : List Int) (i k : Nat) : Nat := (List.range k).foldl (fun acc j => if hasB (xs.getD j 0) i then acc ||| 2 ^ j else acc) 0
theorem col_zero (xs : List Int) (i : Nat) : col xs i 0 = 0 := rfl
theorem col_yes {xs : List Int} {i k : Nat} {x : Int} (hx : xs[k]? = some x) (h : hasB x i = true) : col xs i (k + 1) = col xs i k ||| 2 ^ k := by
  simp [col, List.range_succ, List.foldl_append, List.getD, hx, h]
theorem col_no {xs : List Int} {i k : Nat} {x : Int} (hx : xs[k]? = some x) (h : hasB x i = false) : col xs i (k + 1) = col xs i k := by
  simp [col, List.range_succ, List.foldl_append, List.getD, hx, h]
theorem col_lt (xs : List Int) (i k : Nat) : col xs i k < 2 ^ k := by
  induction k with
  | zero => simp [col]
  | succ k ih =>
    have h : col xs i (k + 1) = if hasB (xs.getD k 0) i then col xs i k ||| 2 ^ k else col xs i k := by
      simp [col, List.range_succ, List.foldl_append]
    rw [h]
    have h2 : (2 : Nat) ^ k < 2 ^ (k + 1) := Nat.pow_lt_pow_right (by omega) (by omega)
    split
    · exact Nat.or_lt_two_pow (by omega) h2
    · omega

def mapN (n : Nat) (f : Nat → Nat) : List Int := (List.range n).map fun i => ((f i : Nat) : Int)
theorem mapN_length (n : Nat) (f : Nat → Nat) : (mapN n f).length = n := by simp [mapN]
theorem mapN_get {n : Nat} {f : Nat → Nat} {i : Nat} (h : i < n) : (mapN n f)[i]? = some ((f i : Nat) : Int) := by simp [mapN, h]
theorem mapN_set {n : Nat} {f g : Nat → Nat} {i : Nat} (h : ∀ j, j < n → j ≠ i → f j = g j) : (mapN n f).set i ((g i : Nat) : Int) = mapN n g := by
  apply List.ext_getElem?
  intro j
  rw [List.getElem?_set]
  rcases Nat.lt_or_ge j n with h1 | h1
  · by_cases h2 : i = j
    · subst h2
      rw [if_pos rfl, if_pos (by rw [mapN_length]; exact h1), mapN_get h1]
    · rw [if_neg h2, mapN_get h1, mapN_get h1, h j h1 (fun h => h2 h.symm)]
  · rw [List.getElem?_eq_none (by rw [mapN_length]; exact h1), List.getElem?_eq_none (by rw [mapN_length]; exact h1)]
    split
    · rename_i h2; rw [if_neg (by rw [mapN_length]; omega)]
    · rfl
theorem mapN_congr {n : Nat} {f g : Nat → Nat} (h : ∀ i, i < n → f i = g i) : mapN n f = mapN n g := by
  unfold mapN
  apply List.map_congr_left
  intro i hi
  rw [h i (by simpa using hi)]
theorem mapN_zero (n : Nat) : mapN n (fun _ => 0) = List.replicate n 0 := by
  apply List.ext_getElem?
  intro i
  rcases Nat.lt_or_ge i n with h1 | h1
  · rw [mapN_get h1]; simp [h1]
  · rw [List.getElem?_eq_none (by rw [mapN_length]; exact h1)]; simp; omega
theorem mapN_succ (n : Nat) (f : Nat → Nat) : mapN (n + 1) f = mapN n f ++ [((f n : Nat) : Int)] := by simp [mapN, List.range_succ]

/-- The inverse of a relation. -/
def invR (xs : List Int) : List Int := mapN xs.length fun i => col xs i xs.length

/-- The row while member t of row k's members is taken. -/
def invAt (xs : List Int) (k : Nat) (l : List Int) (i : Nat) : Nat := if (i : Int) ∈ l then col xs i k ||| 2 ^ k else col xs i k
theorem invAt_lt (xs : List Int) (k : Nat) (l : List Int) (i : Nat) : invAt xs k l i < 2 ^ (k + 1) := by
  have h1 := col_lt xs i k
  have h2 : (2 : Nat) ^ k < 2 ^ (k + 1) := Nat.pow_lt_pow_right (by omega) (by omega)
  unfold invAt
  split
  · exact Nat.or_lt_two_pow (by omega) h2
  · omega
theorem invAt_step {xs : List Int} {k : Nat} {l : List Int} {t : Nat} {j : Nat} (hj : l[t]? = some (j : Int)) : invAt xs k (l.take (t + 1)) j = invAt xs k (l.take t) j ||| 2 ^ k := by
  have e : l.take (t + 1) = l.take t ++ [(j : Int)] := by rw [List.take_add_one, hj]; rfl
  rw [e]
  unfold invAt
  rw [if_pos (by simp)]
  split
  · rw [Nat.or_assoc, Nat.or_self]
  · rfl
theorem invAt_other {xs : List Int} {k : Nat} {l : List Int} {t : Nat} {j i : Nat} (hj : l[t]? = some (j : Int)) (hi : i ≠ j) : invAt xs k (l.take t) i = invAt xs k (l.take (t + 1)) i := by
  have e : l.take (t + 1) = l.take t ++ [(j : Int)] := by rw [List.take_add_one, hj]; rfl
  rw [e]
  unfold invAt
  have : ((i : Int) ∈ l.take t ++ [(j : Int)]) ↔ (i : Int) ∈ l.take t := by
    simp only [List.mem_append, List.mem_singleton]
    constructor
    · rintro (h | h)
      · exact h
      · omega
    · exact .inl
  simp only [this]
theorem invAt_end {xs : List Int} {k : Nat} {x : Int} {n : Nat} (hx : xs[k]? = some x) (h1 : x.toNat < 2 ^ n) (hn : n ≤ 63) (i : Nat) : invAt xs k (mem x) i = col xs i (k + 1) := by
  unfold invAt
  have := mem_has h1 hn i
  cases h : hasB x i
  · rw [if_neg (by rw [this, h]; simp), col_no hx h]
  · rw [if_pos (by rw [this, h]), col_yes hx h]

/-- A relation in which each element is related to itself, too. -/
def reflR (xs : List Int) : List Int := mapN xs.length fun i => (xs.getD i 0).toNat ||| 2 ^ i
theorem reflR_length (xs : List Int) : (reflR xs).length = xs.length := mapN_length _ _
theorem reflR_get {xs : List Int} {k : Nat} {x : Int} (hx : xs[k]? = some x) : (reflR xs)[k]? = some ((x.toNat ||| 2 ^ k : Nat) : Int) := by
  have hk := (List.getElem?_eq_some_iff.1 hx).1
  unfold reflR
  rw [mapN_get hk]
  simp [List.getD, hx]

/-- The error for a relation; for a relation and a mask. -/
def relCode (xs : List Int) : Int := if 30 < xs.length then 2 else if relB xs then 0 else 1
def onCode (xs : List Int) (m : Int) : Int := if relCode xs = 0 then maskCode xs.length m else relCode xs

theorem relCode_cases (xs : List Int) : (30 < xs.length ∧ relCode xs = 2) ∨ (xs.length ≤ 30 ∧ relB xs = false ∧ relCode xs = 1) ∨ (xs.length ≤ 30 ∧ relB xs = true ∧ relCode xs = 0) := by
  unfold relCode
  by_cases h : 30 < xs.length
  · exact .inl ⟨h, if_pos h⟩
  · rw [if_neg h]
    cases h2 : relB xs
    · exact .inr (.inl ⟨by omega, rfl, rfl⟩)
    · exact .inr (.inr ⟨by omega, rfl, rfl⟩)

theorem rel_bounds {xs : List Int} (hl : xs.length ≤ 30) (h : relB xs = true) : ∀ (i : Nat) (x : Int), xs[i]? = some x → 0 ≤ x ∧ x < 1073741824 ∧ x.toNat < 2 ^ xs.length := by
  intro i x hx
  have h1 : isMaskB xs.length x = true := by
    unfold relB masksB at h
    rw [List.all_eq_true] at h
    exact h x (List.mem_of_getElem? hx)
  unfold isMaskB at h1
  have h2 := (Bool.and_eq_true _ _).mp h1
  have h3 := inR_iff.1 h2.2
  have h4 := pow_bounds xs.length 30 (by omega)
  unfold full at h3
  rw [show (2 : Int) ^ 30 = 1073741824 by decide] at h4
  have e : ((2 : Int) ^ ((xs.length : Int)).toNat) = ((2 ^ xs.length : Nat) : Int) := by simp
  rw [e] at h3 h4
  omega

theorem on_bounds {xs : List Int} {m : Int} (h : onCode xs m = 0) : xs.length ≤ 30 ∧ relB xs = true ∧ 0 ≤ m ∧ m < 1073741824 ∧ m.toNat < 2 ^ xs.length := by
  unfold onCode at h
  rcases relCode_cases xs with ⟨h1, h2⟩ | ⟨h1, h3, h2⟩ | ⟨h1, h3, h2⟩
  · rw [h2, if_neg (by omega)] at h; omega
  · rw [h2, if_neg (by omega)] at h; omega
  · rw [h2, if_pos rfl] at h
    have h4 := maskCode_bounds h
    refine ⟨h1, h3, h4.2.2.1, h4.2.2.2, ?_⟩
    unfold maskCode at h
    rw [inR_yes (by omega) (by omega), if_pos rfl] at h
    split at h
    · rename_i h5
      have h6 := inR_iff.1 h5
      unfold full at h6
      have e : ((2 : Int) ^ ((xs.length : Int)).toNat) = ((2 ^ xs.length : Nat) : Int) := by simp
      rw [e] at h6
      omega
    · cases h
end Go.Proofs.Ytfedipeabbaccaa
