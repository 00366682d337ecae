/- Walks of VariablesOf, of the program and of the reference. -/
import Derived.Test.YtmhkcicjbgifnaaGreatMMaskOfM
import Derived.Test.YtmhkcicjbgifnaaGreatMPlain
import Derived.Test.YtmhkcicjbgifnaaGreatMClassTwo

namespace Go.Proofs.YtmhkcicjbgifnaaGreat
open Go.RowKit

/-- The variables' numbers of a formula, in order of place. -/
def varL (ns : List Nd) : List Int := (ns.filter fun n => decide (n.1 = 0)).map (·.2)

theorem varL_succ (ns : List Nd) (k : Nat) (x y : Int) (hx : ns[k]? = some (x, y)) : varL (ns.take (k + 1)) = varL (ns.take k) ++ (if x = 0 then [y] else []) := by
  have e : ns.take (k + 1) = ns.take k ++ [(x, y)] := by
    rw [List.take_add_one, hx]; rfl
  rw [e]
  unfold varL
  rw [List.filter_append, List.map_append]
  by_cases h : x = 0 <;> simp [List.filter, h]

theorem varMask_yes (ns : List Nd) (k : Nat) (x y : Int) (hx : ns[k]? = some (x, y)) (h : x = 0) : orBits (varL (ns.take (k + 1))) = orBits (varL (ns.take k)) ||| 2 ^ y.toNat := by
  rw [varL_succ ns k x y hx, if_pos h]
  simp [orBits, List.foldl_append]

theorem varMask_no (ns : List Nd) (k : Nat) (x y : Int) (hx : ns[k]? = some (x, y)) (h : x ≠ 0) : orBits (varL (ns.take (k + 1))) = orBits (varL (ns.take k)) := by
  rw [varL_succ ns k x y hx, if_neg h, List.append_nil]

theorem nodeB_bound {ns : List Nd} {k : Nat} {x y : Int} (hg : ns.all nodeB = true) (hx : ns[k]? = some (x, y)) : 0 ≤ x ∧ x ≤ 6 ∧ 0 ≤ y ∧ y ≤ 5 := by
  have h := List.all_eq_true.1 hg (x, y) (List.mem_of_getElem? hx)
  rw [nodeB_spec] at h
  simp only [Bool.and_eq_true, Bool.or_eq_true, decide_eq_true_eq, inR_iff] at h
  omega

def varMask (ns : List Nd) : Int := (orBits (varL ns) : Nat)
def varsR (ns : List Nd) : List Int := if formB ns then mem (varMask ns) else []
theorem form_all {ns : List Nd} (h : formB ns = true) : ns.all nodeB = true := by
  simp only [formB, Bool.and_eq_true] at h
  exact h.1.2

theorem orBits_bound (xs : List Int) (h : ∀ x ∈ xs, x ≤ 5) : orBits xs < 64 := by
  suffices hh : ∀ (xs : List Int) (acc : Nat), acc < 2 ^ 6 → (∀ x ∈ xs, x ≤ 5) → xs.foldl (fun acc x => acc ||| 2 ^ x.toNat) acc < 2 ^ 6 from hh xs 0 (by omega) h
  intro xs
  induction xs with
  | nil => intro acc h _; exact h
  | cons x xs ih =>
    intro acc h hx
    refine ih _ (Nat.or_lt_two_pow h (Nat.pow_lt_pow_right (by omega) ?_)) (fun z hz => hx z (by simp [hz]))
    have := hx x (by simp)
    omega

theorem varMask_bound {ns : List Nd} (hg : ns.all nodeB = true) : 0 ≤ varMask ns ∧ varMask ns < 64 := by
  have : orBits (varL ns) < 64 := orBits_bound _ fun x hx => by
    simp only [varL, List.mem_map, List.mem_filter, decide_eq_true_eq] at hx
    obtain ⟨⟨a, b⟩, ⟨h1, h2⟩, rfl⟩ := hx
    obtain ⟨k, hk⟩ := List.getElem?_of_mem h1
    have := nodeB_bound hg hk
    show b ≤ 5
    omega
  unfold varMask
  omega

theorem varsR_length (ns : List Nd) : (varsR ns).length ≤ 64 := by
  unfold varsR
  split
  · have := mem_length_le (varMask ns); omega
  · simp



end Go.Proofs.YtmhkcicjbgifnaaGreat

/- Plain theory: on which variables a set of rows depends; how many rows hold. No program is named here. -/
namespace Go.Proofs.YtmhkcicjbgifnaaGreat
open Go.RowKit Go.Deep

/-- The row with digit v turned. -/
def flipB (i v : Nat) : Nat := if i.testBit v then i - 2 ^ v else i + 2 ^ v

theorem flip_facts : ∀ v : Fin 6, ∀ i : Fin 64, flipB i.val v.val < 64 ∧ (flipB i.val v.val).testBit v.val = !(i.val.testBit v.val) ∧ (i.val.testBit v.val = true → 2 ^ v.val ≤ i.val) ∧ flipB (flipB i.val v.val) v.val = i.val ∧
    (i.val.testBit v.val = false → i.val + 2 ^ v.val < 64) ∧ ((i.val + 2 ^ v.val).testBit v.val = !(i.val.testBit v.val)) ∧ (2 ^ v.val ≤ i.val → (i.val - 2 ^ v.val).testBit v.val = !(i.val.testBit v.val)) := by decide +kernel

theorem flip_of {v i : Nat} (hv : v < 6) (hi : i < 64) : flipB i v < 64 ∧ (flipB i v).testBit v = !(i.testBit v) ∧ (i.testBit v = true → 2 ^ v ≤ i) ∧ flipB (flipB i v) v = i ∧
    (i.testBit v = false → i + 2 ^ v < 64) ∧ ((i + 2 ^ v).testBit v = !(i.testBit v)) ∧ (2 ^ v ≤ i → (i - 2 ^ v).testBit v = !(i.testBit v)) := flip_facts ⟨v, hv⟩ ⟨i, hi⟩

/-- The rows that differ from one of the set in digit v at most. -/
def wo (p : Nat → Bool) (v : Nat) (i : Nat) : Bool := p i || p (flipB i v)

theorem rows_andnot (p q : Nat → Bool) : rowsOf p 64 &&& (18446744073709551615 - rowsOf q 64) = rowsOf (fun i => p i && !q i) 64 := by
  rw [rows_not, rows_and]

theorem wo_rows (p : Nat → Bool) (v : Nat) (hv : v < 6) :
    (rowsOf p 64 ||| (rowsOf (fun i => p i && i.testBit v) 64) / 2 ^ 2 ^ v) ||| ((rowsOf (fun i => p i && !i.testBit v) 64) * 2 ^ 2 ^ v) % 18446744073709551616 = rowsOf (wo p v) 64 := by
  apply Nat.eq_of_testBit_eq
  intro i
  rw [show (18446744073709551616 : Nat) = 2 ^ 64 from rfl]
  rw [Nat.testBit_or, Nat.testBit_or, rowsOf_bit, rowsOf_bit, Nat.testBit_div_two_pow, rowsOf_bit, Nat.testBit_mod_two_pow, Nat.testBit_mul_two_pow, rowsOf_bit]
  rcases Nat.lt_or_ge i 64 with hi | hi
  · obtain ⟨h1, h2, h3, h4, h5, h6, h7⟩ := flip_of hv hi
    simp only [hi, decide_true, Bool.true_and]
    unfold wo flipB
    cases hb : i.testBit v
    · have h8 := h5 hb
      rw [hb] at h6 h7
      simp only [Bool.false_eq_true, if_false, h6, Bool.not_false, Bool.and_true, show i + 2 ^ v < 64 from h8, decide_true, Bool.true_and]
      by_cases h9 : 2 ^ v ≤ i
      · rw [h7 h9]; simp
      · simp [h9]
    · have h8 := h3 hb
      rw [hb] at h6 h7
      have h9 := h7 h8
      simp only [h6, if_true, Bool.not_true, Bool.and_false, Bool.or_false, h8, decide_true, Bool.true_and, h9, Bool.not_false, Bool.and_true, show i - 2 ^ v < 64 from Nat.lt_of_le_of_lt (Nat.sub_le _ _) hi]
  · simp [show ¬ i < 64 by omega, show ¬ i + 2 ^ v < 64 from Nat.not_lt.2 (Nat.le_trans hi (Nat.le_add_right _ _))]

theorem rowsOf_inj {p q : Nat → Bool} (h : rowsOf p 64 = rowsOf q 64) : ∀ i, i < 64 → p i = q i := by
  intro i hi
  have := congrArg (·.testBit i) h
  simpa [rowsOf_bit, hi] using this

/-- Whether a set of rows depends on v. -/
def depB (p : Nat → Bool) (v : Nat) : Bool := (List.range 64).any fun i => !(i.testBit v) && (p i != p (i + 2 ^ v))

theorem dep_wo (p : Nat → Bool) (v : Nat) (hv : v < 6) : (rowsOf (wo p v) 64 != rowsOf p 64) = depB p v := by
  rw [Bool.eq_iff_iff, bne_iff_ne]
  unfold depB
  rw [List.any_eq_true]
  constructor
  · intro h
    apply Classical.byContradiction
    intro hno
    apply h
    apply rowsOf_congr
    intro i hi
    obtain ⟨h1, h2, h3, h4, h5, h6, h7⟩ := flip_of hv hi
    have key : ∀ j, j < 64 → j.testBit v = false → p j = p (j + 2 ^ v) := by
      intro j hj hb
      apply Classical.byContradiction
      intro hne
      exact hno ⟨j, by simpa using hj, by rw [hb]; simpa using hne⟩
    unfold wo flipB
    cases hb : i.testBit v
    · simp only [Bool.false_eq_true, if_false]
      rw [← key i hi hb]; simp
    · simp only [if_true]
      have h8 := h3 hb
      have h9 := h7 h8
      rw [hb] at h9
      have := key (i - 2 ^ v) (Nat.lt_of_le_of_lt (Nat.sub_le _ _) hi) (by simpa using h9)
      rw [show i - 2 ^ v + 2 ^ v = i by omega] at this
      rw [this]; simp
  · rintro ⟨i, hi, hh⟩ heq
    have hi : i < 64 := by simpa using hi
    simp only [Bool.and_eq_true, Bool.not_eq_true'] at hh
    obtain ⟨h1, h2, h3, h4, h5, h6, h7⟩ := flip_of hv hi
    have e1 := rowsOf_inj heq i hi
    have e2 := rowsOf_inj heq (i + 2 ^ v) (h5 hh.1)
    unfold wo flipB at e1 e2
    rw [hh.1] at e1 h6
    rw [h6] at e2
    simp only [Bool.false_eq_true, if_false, Bool.not_false, if_true, Nat.add_sub_cancel] at e1 e2
    have h8 := hh.2
    cases ha : p i <;> cases hb : p (i + 2 ^ v) <;> rw [ha, hb] at e1 e2 h8 <;> simp at e1 e2 h8

def depsL (p : Nat → Bool) (n : Nat) : List Int := ((List.range n).filter (depB p)).map fun v => ((v : Nat) : Int)
theorem depsL_yes {p : Nat → Bool} {n : Nat} (h : depB p n = true) : depsL p (n + 1) = depsL p n ++ [(n : Int)] := by
  simp [depsL, List.range_succ, List.filter_append, h]
theorem depsL_no {p : Nat → Bool} {n : Nat} (h : depB p n = false) : depsL p (n + 1) = depsL p n := by
  simp [depsL, List.range_succ, List.filter_append, h]
theorem depsL_length (p : Nat → Bool) (n : Nat) : (depsL p n).length ≤ n := by
  unfold depsL
  rw [List.length_map]
  exact Nat.le_trans (List.length_filter_le _ _) (by simp)

/-- Row by row: what the reference's inner loop has found. -/
def depUpto (p : Nat → Bool) (v k : Nat) : Bool := (List.range k).any fun i => !(i.testBit v) && (p i != p (i + 2 ^ v))
theorem depUpto_succ (p : Nat → Bool) (v k : Nat) : depUpto p v (k + 1) = (depUpto p v k || (!(k.testBit v) && (p k != p (k + 2 ^ v)))) := by
  simp [depUpto, List.range_succ, List.any_append]

/-- How many of the first n rows hold. -/
def cnt (p : Nat → Bool) : Nat → Nat
  | 0 => 0
  | n + 1 => cnt p n + if p n then 1 else 0
theorem cnt_congr {p q : Nat → Bool} {n : Nat} (h : ∀ i, i < n → p i = q i) : cnt p n = cnt q n := by
  induction n with
  | zero => rfl
  | succ n ih => simp only [cnt]; rw [ih (fun i hi => h i (by omega)), h n (by omega)]
theorem cnt_add (p : Nat → Bool) (a b : Nat) : cnt p (a + b) = cnt p a + cnt (fun i => p (a + i)) b := by
  induction b with
  | zero => rfl
  | succ b ih => rw [← Nat.add_assoc]; simp only [cnt]; rw [ih]; omega
theorem cnt_period (p : Nat → Bool) (a b : Nat) (h : ∀ i, p (a + i) = p i) : cnt p (a * b) = b * cnt p a := by
  induction b with
  | zero => simp [cnt]
  | succ b ih =>
    rw [Nat.mul_succ, Nat.add_comm, cnt_add, cnt_congr (fun i _ => h i), ih, Nat.succ_mul]
    omega
theorem cnt_le (p : Nat → Bool) (n : Nat) : cnt p n ≤ n := by
  induction n with
  | zero => simp [cnt]
  | succ n ih => simp only [cnt]; split <;> omega
theorem ones_rows (p : Nat → Bool) (n : Nat) (hn : n ≤ 64) : ones n (rowsOf p 64) = cnt p n := by
  induction n with
  | zero => rfl
  | succ n ih =>
    rw [ones_split n 1, ih (by omega)]
    simp only [cnt, ones, Nat.add_zero]
    congr 1
    have h := rowsOf_bit p 64 n
    rw [Nat.testBit_eq_decide_div_mod_eq] at h
    simp only [show n < 64 by omega, decide_true, Bool.true_and] at h
    cases hp : p n
    · rw [hp] at h; have := of_decide_eq_false h; simp; omega
    · rw [hp] at h; have := of_decide_eq_true h; simp; omega
theorem pop_rows (t : Tr) : popInt (rowsT t) = (cnt (valT t) 64 : Nat) := by
  unfold popInt rowsT
  rw [Int.toNat_natCast, ones_rows _ _ (by omega)]

/-- A tree's value hangs on its variables alone. -/
theorem valT_vars (t : Tr) (i j : Nat) (h : ∀ n ∈ flat t, n.1 = 0 → i.testBit n.2.toNat = j.testBit n.2.toNat) : valT t i = valT t j := by
  induction t with
  | nil => rfl
  | node b o n l r ihl ihr =>
    have h1 := ihl (fun m hm => h m (by simp [flat, hm]))
    have h2 := ihr (fun m hm => h m (by simp [flat, hm]))
    simp only [valT, h1, h2]
    split
    · rename_i h0; exact h n (by simp [flat]) h0
    · rfl

theorem count_low (t : Tr) (n : Nat) (hn : n ≤ 6) (h : ∀ m ∈ flat t, m.1 = 0 → m.2.toNat < n) : cnt (valT t) 64 = 2 ^ (6 - n) * cnt (valT t) (2 ^ n) := by
  have e : 64 = 2 ^ n * 2 ^ (6 - n) := by rw [← Nat.pow_add, show n + (6 - n) = 6 by omega]
  rw [e]
  apply cnt_period
  intro i
  apply valT_vars
  intro m hm hm0
  have h1 := h m hm hm0
  exact Nat.testBit_two_pow_add_gt h1 i
end Go.Proofs.YtmhkcicjbgifnaaGreat
