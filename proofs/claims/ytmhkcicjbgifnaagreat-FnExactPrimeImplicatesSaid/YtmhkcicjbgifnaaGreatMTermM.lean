/- Walks of IsTautology, of the program and of the reference. -/
import Derived.Test.YtmhkcicjbgifnaaGreatMClassTwo
import Derived.Maps.AppendAt
import Derived.Test.YtmhkcicjbgifnaaGreatMPrimeMath
import Derived.Test.YtmhkcicjbgifnaaGreatMDependMathM

namespace Go.Proofs.YtmhkcicjbgifnaaGreat
open Go.RowKit Go.Deep

def tautR (ns : List Nd) : Bool := if codeP [ns] = 0 then (List.range 64).all (valT (treeOf ns)) else false
theorem taut_first (t : Tr) : decide (firstI (valT t) false < 0) = (List.range 64).all (valT t) := by
  rw [Bool.eq_iff_iff, decide_eq_true_eq, firstI_neg, List.all_eq_true]
  constructor
  · intro h i hi
    have := h i (by simpa using hi)
    simpa using this
  · intro h i hi
    have := h i (by simpa using hi)
    rw [this]; rfl
theorem taut_rows (t : Tr) : (rowsT t == 18446744073709551615) = (List.range 64).all (valT t) := by
  rw [Bool.eq_iff_iff, beq_iff_eq, ← rows_all]
  unfold rowsT
  omega


end Go.Proofs.YtmhkcicjbgifnaaGreat

/- Walks of TruthTable, of the program and of the reference. -/
namespace Go.Proofs.YtmhkcicjbgifnaaGreat
open Go.RowKit Go.Deep

/-- What an append leaves of another row. -/
theorem app_keep {wr w3 : World} {cs : Array Value} {t : TypeId} {v v' : Value} {bb : Nat} (hgrow : (wr.alloc (.cells cs t)).grownBy w3 v.ownBlock) (hne : ∀ j, v.ownBlock = some j → j ≠ bb)
    (hat : v'.ownBlock = v.ownBlock ∨ v'.ownBlock = some (wr.alloc (.cells cs t)).heap.size) (hbl : bb < wr.heap.size) :
    Hid (∀ j, v'.ownBlock = some j → j ≠ bb) ∧ (∀ o, w3.cell? ⟨bb, o, none⟩ = wr.cell? ⟨bb, o, none⟩) ∧ bb < w3.heap.size := by
  have hs := hgrow.size
  simp at hs
  refine ⟨fun j hj => ?_, fun o => ?_, by omega⟩
  · rcases hat with h | h
    · exact hne j (h ▸ hj)
    · rw [h] at hj; simp at hj; omega
  · have h1 : w3.cell? ⟨bb, o, none⟩ = (wr.alloc (.cells cs t)).cell? ⟨bb, o, none⟩ := hgrow.cell_far _ (by simp; omega) (fun h => hne bb h.symm rfl)
    exact h1.trans (((Below.refl wr.heap.size wr).alloc (Nat.le_refl _) _).cell (p := ⟨bb, o, none⟩) hbl)

def oneI (b : Bool) : Int := if b then 1 else 0
theorem oneI_bounds (b : Bool) : 0 ≤ oneI b ∧ oneI b ≤ 1 := by cases b <;> simp [oneI]
def tabI (p : Nat → Bool) (n : Nat) : List Int := (List.range n).map fun i => oneI (p i)
theorem tabI_length (p : Nat → Bool) (n : Nat) : (tabI p n).length = n := by simp [tabI]
theorem tabI_succ (p : Nat → Bool) (n : Nat) : tabI p (n + 1) = tabI p n ++ [oneI (p n)] := by simp [tabI, List.range_succ]

theorem bit_of_rows (t : Tr) (k : Nat) (hk : k < 64) : bits BinOp.and IntKind.u64 (rowsT t / 2 ^ k) 1 = oneI (valT t k) := by
  unfold rowsT
  have h := rows64_lt (valT t)
  have e : (((rowsOf (valT t) 64 : Nat) : Int) / 2 ^ k) = ((rowsOf (valT t) 64 / 2 ^ k : Nat) : Int) := by simp
  have h2 : rowsOf (valT t) 64 / 2 ^ k ≤ rowsOf (valT t) 64 := Nat.div_le_self _ _
  rw [e, show (1 : Int) = ((1 : Nat) : Int) from rfl, u64_and_nat _ _ (by omega) (by omega), Nat.and_one_is_mod]
  have h3 := rowsOf_bit (valT t) 64 k
  rw [Nat.testBit_eq_decide_div_mod_eq] at h3
  simp only [hk, decide_true, Bool.true_and] at h3
  rw [← h3]
  unfold oneI
  rcases Nat.mod_two_eq_zero_or_one (rowsOf (valT t) 64 / 2 ^ k) with h4 | h4 <;> rw [h4] <;> simp

def tableR (ns : List Nd) : List Int := if codeP [ns] = 0 then tabI (valT (treeOf ns)) 64 else []
theorem tableR_length (ns : List Nd) : (tableR ns).length ≤ 1000000 := by
  unfold tableR
  split
  · rw [tabI_length]; omega
  · simp


end Go.Proofs.YtmhkcicjbgifnaaGreat

/- impl.literalRows, impl.termRows: the rows in which a term is true. -/
namespace Go.Proofs.YtmhkcicjbgifnaaGreat
open Go.RowKit Go.Deep
set_option linter.unusedVariables false
set_option linter.unusedSimpArgs false

theorem litB_pos {l : Int} (h : l % 2 = 0) (r : Nat) : litB l r = r.testBit (l / 2).toNat := by simp [litB, h]
theorem litB_neg {l : Int} (h : l % 2 ≠ 0) (r : Nat) : litB l r = !r.testBit (l / 2).toNat := by
  unfold litB
  rw [decide_eq_false h]
  cases r.testBit (l / 2).toNat <;> rfl
theorem not_rows (p : Nat → Bool) : bits BinOp.xor IntKind.u64 IntKind.u64.max ((rowsOf p 64 : Nat) : Int) = ((rowsOf (fun i => !p i) 64 : Nat) : Int) := by
  rw [u64_max, u64_xor_nat _ _ (by omega) (rows64_lt _), rows_flip]
theorem and_rows (p q : Nat → Bool) : bits BinOp.and IntKind.u64 ((rowsOf p 64 : Nat) : Int) ((rowsOf q 64 : Nat) : Int) = ((rowsOf (fun i => p i && q i) 64 : Nat) : Int) := by
  rw [u64_and_nat _ _ (rows64_lt _) (rows64_lt _), rows_and]
theorem andNot_rows (p q : Nat → Bool) : bits BinOp.andNot IntKind.u64 ((rowsOf p 64 : Nat) : Int) ((rowsOf q 64 : Nat) : Int) = ((rowsOf (fun i => p i && !q i) 64 : Nat) : Int) := by
  rw [u64_andNot_nat _ _ (rows64_lt _) (rows64_lt _), rows_andnot]
theorem termB_succ {xs : List Int} {k : Nat} {x : Int} (h : xs[k]? = some x) : (fun r => termB (xs.take (k + 1)) r) = fun r => termB (xs.take k) r && litB x r := by
  funext r
  unfold termB
  rw [List.take_add_one, h, List.all_append]
  simp
theorem imp_rows (p : Nat → Bool) (T : List Int) : (((rowsOf (fun r => termB T r && !p r) 64 : Nat) : Int) == 0) = impB p T := by
  rw [Bool.eq_iff_iff, beq_iff_eq]
  unfold impB
  rw [show ((rowsOf (fun r => termB T r && !p r) 64 : Nat) : Int) = 0 ↔ rowsOf (fun r => termB T r && !p r) 64 = 0 by omega, rows_empty, List.all_eq_true, List.all_eq_true]
  constructor
  · intro h r hr
    have := h r hr
    cases hp : p r <;> cases ht : termB T r <;> simp [hp, ht] at this ⊢
  · intro h r hr
    have := h r hr
    cases hp : p r <;> cases ht : termB T r <;> simp [hp, ht] at this ⊢
set_option maxHeartbeats 1000000 in
theorem literalRows_any (l : Int) (w : World) (h0 : 0 ≤ l) (h1 : l ≤ 11) :
    Calls Tryz.prog 72 #[.int .i64 l] w fun e w' => e = .returned (.int .u64 (rowsOf (litB l) 64 : Nat)) ∧ w = w' := by
  have hv := Lib.hid (fun w => variableRows_any (l / 2) w (by omega) (by omega))
  by_cases he : l % 2 = 0
  · have hr := Lib.hid (show rowsOf (fun i => i.testBit (l / 2).toNat) 64 = rowsOf (litB l) 64 from rowsOf_congr fun i _ => (litB_pos he i).symm)
    rw [hr.out] at hv
    go_enter Tryz.func72, Tryz.ntmps72
    go_wp2_with fail
    refine (hv.out _).mono ?_
    rintro e w' ⟨rfl, rfl⟩
    go_wp2_with fail
    go_ret
    exact ⟨rfl, rfl⟩
  · have hr := Lib.hid (show bits BinOp.xor IntKind.u64 IntKind.u64.max ((rowsOf (fun i => i.testBit (l / 2).toNat) 64 : Nat) : Int) = ((rowsOf (litB l) 64 : Nat) : Int) by
      rw [not_rows]
      congr 1
      exact rowsOf_congr fun i _ => (litB_neg he i).symm)
    have he1 : l % 2 = 1 := by omega
    generalize ((rowsOf (litB l) 64 : Nat) : Int) = R at *
    generalize ((rowsOf (fun i => i.testBit (l / 2).toNat) 64 : Nat) : Int) = V at *
    clear he
    go_enter Tryz.func72, Tryz.ntmps72
    go_wp2_with fail
    refine (hv.out _).mono ?_
    rintro e w' ⟨rfl, rfl⟩
    go_wp2_with fail
    go_ret
    exact ⟨ret_int hr.out, rfl⟩
set_option maxHeartbeats 1000000 in
theorem termRows_any (v : Value) (xs : List Int) (w : World) (h : Ints w v xs) (hc : ∀ x ∈ xs, 0 ≤ x ∧ x ≤ 11) :
    Calls Tryz.prog 43 #[v] w fun e w' => e = .returned (.int .u64 (rowsOf (termB xs) 64 : Nat)) ∧ w = w' := by
  obtain ⟨hm, a, c, b, o, rfl, hcp, h0, hcell⟩ := h.opened
  unfold maxLen at hm
  have hc := Lib.hid hc
  clear h
  have hst := Lib.hid (show (18446744073709551615 : Int) = ((rowsOf (fun r => termB (xs.take 0) r) 64 : Nat) : Int) by
    have : (fun r => termB (xs.take 0) r) = fun _ => true := by funext r; simp [termB]
    rw [this, rows_every]
    rfl)
  go_enter Tryz.func43, Tryz.ntmps43
  go_wp2_with fail
  go_loop [3, 8] (fun mm i => ∃ (k : Nat) (m : Int), k ≤ xs.length ∧ i = .int .i64 k ∧ mm = .int .u64 m ∧ Hid (m = ((rowsOf (fun r => termB (xs.take k) r) 64 : Nat) : Int))) (fun _ i => xs.length - (intOf i).toNat)
  case atStart => exact ⟨0, _, Nat.zero_le _, rfl, rfl, hst⟩
  case round =>
    obtain ⟨k, m, hk, rfl, rfl, hmm⟩ := hrel
    by_cases hlt : k < xs.length
    · have ha : a = some ⟨b, o, none⟩ := by
        rcases h0 with h | ⟨_, h⟩
        · exact absurd h (by omega)
        · exact h
      subst ha
      obtain ⟨x, hx, hcx⟩ := hcell.out k hlt
      obtain ⟨x0, x1⟩ := hc.out x (List.mem_of_getElem? hx)
      have hl := Lib.hid (fun w => literalRows_any x w x0 x1)
      have hnx := Lib.hid (show bits BinOp.and IntKind.u64 m ((rowsOf (litB x) 64 : Nat) : Int) = ((rowsOf (fun r => termB (xs.take (k + 1)) r) 64 : Nat) : Int) by
        rw [hmm.out, and_rows, termB_succ hx])
      generalize ((rowsOf (litB x) 64 : Nat) : Int) = L at *
      clear hx
      go_wp2_with fail
      refine (hl.out _).mono ?_
      rintro e w' ⟨rfl, rfl⟩
      go_wp2_with fail
      go_round
      case rel => exact ⟨k + 1, _, by omega, by go_num, rfl, hnx⟩
      case measure => simp [intOf]; omega
    · obtain rfl : k = xs.length := by omega
      have h1 := Lib.hid (show m = ((rowsOf (termB xs) 64 : Nat) : Int) by have h1 := hmm.out; rw [List.take_length] at h1; exact h1)
      go_wp2_with fail
      go_ret
      exact ⟨ret_int h1.out, rfl⟩
end Go.Proofs.YtmhkcicjbgifnaaGreat
