/- The laws' own walks, from the contracts of what they call: masks. -/
import Derived.Test.YtkklbfgdogoloaaMembers
namespace Go.Proofs.Ytkklbfgdogoloaa
open Go.RowKit
set_option linter.unusedVariables false

theorem w_FnExactConstants (w : World) : Calls Try.prog 3 #[] w fun e w' => e = .returned (.bool true) ∧ Below w.heap.size w w' := by
  go_enter Try.func3, Try.ntmps3
  go_wp2
  go_ret
  exact ⟨rfl, Below.refl _ _⟩

theorem w_FnExactIsMask (n m : Int) (w : World) (hn : (Lit.int .i64 n).wf = true) (hm : (Lit.int .i64 m).wf = true) :
    Calls Try.prog 4 #[.int .i64 n, .int .i64 m] w fun e w' => e = .returned (.bool true) ∧ Below w.heap.size w w' := by
  clear hn hm
  go_enter Try.func4, Try.ntmps4
  go_wp2_with (first | (go_at_call 14; refine (specIsMask_any _ _ _).mono ?_; rintro e w' ⟨rfl, rfl⟩) | (go_at_call 15; refine (implIsMask_any _ _ _).mono ?_; rintro e w' ⟨rfl, rfl⟩))
  go_ret
  exact ⟨rfl, Below.refl _ _⟩

theorem w_FnExactCountMembers (n m : Int) (w : World) (hn : (Lit.int .i64 n).wf = true) (hm : (Lit.int .i64 m).wf = true) :
    Calls Try.prog 8 #[.int .i64 n, .int .i64 m] w fun e w' => e = .returned (.bool true) ∧ Below w.heap.size w w' := by
  clear hn hm
  go_enter Try.func8, Try.ntmps8
  go_wp2_with (first | (go_at_call 24; refine (specCountMembers_any _ _ _).mono ?_; rintro e w' ⟨rfl, rfl⟩) | (go_at_call 25; refine (implCountMembers_any _ _ _).mono ?_; rintro e w' ⟨rfl, rfl⟩))
  go_ret
  exact ⟨rfl, Below.refl _ _⟩

theorem w_FnExactMembersOf (n m : Int) (w : World) (hn : (Lit.int .i64 n).wf = true) (hm : (Lit.int .i64 m).wf = true) :
    Calls Try.prog 9 #[.int .i64 n, .int .i64 m] w fun e w' => e = .returned (.bool true) ∧ Below w.heap.size w w' := by
  clear hn hm
  have hlen : (membersR n m).length ≤ 63 := by unfold membersR; split; exact mem_length_le m; simp
  go_enter Try.func9, Try.ntmps9
  go_wp2_with fail
  refine (specMembersOf_any _ _ _).mono ?_
  rintro e w1 ⟨v0, rfl, o0, b1⟩
  go_wp2_with fail
  refine (implMembersOf_any _ _ _).mono ?_
  rintro e w2 ⟨v1, rfl, o1, b2⟩
  have l0 := own_lt o0
  have o0 := own_below o0 b2 (Nat.le_refl _)
  go_wp2_with fail
  refine (eqInt64S_same _ _ _ _ (ints_of_own o1) (ints_of_own o0)).mono ?_
  rintro e w3 ⟨rfl, b3⟩
  have o0 := own_below o0 b3 (Nat.le_refl _)
  have o1 := own_below o1 b3 (Nat.le_refl _)
  go_wp2_with fail
  refine (markInt64S_any _ _ _ _ _ _ o1 (by omega) (by omega)).mono ?_
  rintro e w4 ⟨rfl, o1', g4⟩
  have o0 := own_apart o0 o1 l0 g4
  have b4 := below_mark o1 g4 b1.size (Nat.le_trans b1.size (Nat.le_trans b2.size b3.size))
  go_wp2_with fail
  refine (heldInt64S_any _ _ _ _ (ints_of_own o1') (by omega) (by omega)).mono ?_
  rintro e w5 ⟨rfl, b5⟩
  have o0 := own_below o0 b5 (Nat.le_refl _)
  have o1' := own_below o1' b5 (Nat.le_refl _)
  go_wp2_with fail
  refine (implMembersOf_any _ _ _).mono ?_
  rintro e w6 ⟨v2, rfl, o2, b6⟩
  have o0 := own_below o0 b6 (Nat.le_refl _)
  have o1' := own_below o1' b6 (Nat.le_refl _)
  go_wp2_with fail
  refine (eqInt64S_same _ _ _ _ (ints_of_own o2) (ints_of_own o0)).mono ?_
  rintro e w7 ⟨rfl, b7⟩
  have o1' := own_below o1' b7 (Nat.le_refl _)
  go_wp2_with fail
  refine (heldInt64S_any _ _ _ _ (ints_of_own o1') (by omega) (by omega)).mono ?_
  rintro e w8 ⟨rfl, b8⟩
  go_wp2_with fail
  go_ret
  refine ⟨rfl, ?_⟩
  have s1 := b1.size
  have s2 := b2.size
  have s3 := b3.size
  have s4 := b4.size
  have s5 := b5.size
  have s6 := b6.size
  have s7 := b7.size
  exact b1.trans ((b2.mono (by omega)).trans ((b3.mono (by omega)).trans ((b4.mono (by omega)).trans ((b5.mono (by omega)).trans ((b6.mono (by omega)).trans ((b7.mono (by omega)).trans (b8.mono (by omega))))))))
end Go.Proofs.Ytkklbfgdogoloaa
