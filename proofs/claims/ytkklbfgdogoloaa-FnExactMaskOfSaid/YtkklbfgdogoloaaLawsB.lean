/- The laws' own walks, from the contracts of what they call: clauses, MaskOf, ChooseMasks. -/
import Derived.Test.YtkklbfgdogoloaaClause
import Derived.Test.YtkklbfgdogoloaaMaskOf
namespace Go.Proofs.Ytkklbfgdogoloaa
open Go.RowKit
set_option linter.unusedVariables false

theorem w_FnExactIsClause (v : Value) (xs : List Int) (w : World) (h : Ints w v xs) (hwf : ∀ x ∈ xs, (Lit.int .i64 x).wf = true) :
    Calls Try.prog 6 #[v] w fun e w' => e = .returned (.bool true) ∧ Below w.heap.size w w' := by
  clear hwf
  have hc := h.cap
  unfold maxLen at hc
  have hv := h
  obtain ⟨_, a, c, b, o, rfl, _⟩ := h.opened
  have hv := Lib.hid hv
  clear h
  by_cases hlen : 1048576 < xs.length
  · go_enter Try.func6, Try.ntmps6
    go_wp2_with fail
    go_ret
    exact ⟨rfl, Below.refl _ _⟩
  · go_enter Try.func6, Try.ntmps6
    go_wp2_with fail
    refine (toInt64S_any _ xs _ hv.out (by omega)).mono ?_
    rintro e w1 ⟨v1, rfl, o1, b1⟩
    go_wp2_with fail
    refine (specIsClause_any _ xs _ (ints_of_own o1)).mono ?_
    rintro e w2 ⟨rfl, b2⟩
    have b2 := b1.trans (b2.mono b1.size)
    go_wp2_with fail
    refine (toInt64S_any _ xs _ (hv.out.below b2 (Nat.le_refl _)) (by omega)).mono ?_
    rintro e w3 ⟨v3, rfl, o3, b3⟩
    have b3 := b2.trans (b3.mono b2.size)
    go_wp2_with fail
    refine (implIsClause_any _ xs _ (ints_of_own o3)).mono ?_
    rintro e w4 ⟨rfl, rfl⟩
    go_wp2_with fail
    refine (toInt64S_any _ xs _ (hv.out.below b3 (Nat.le_refl _)) (by omega)).mono ?_
    rintro e w5 ⟨v5, rfl, o5, b5⟩
    have o3 := own_below o3 b5 (Nat.le_refl _)
    have b5 := b3.trans (b5.mono b3.size)
    go_wp2_with fail
    refine (eqInt64S_same _ _ xs _ (ints_of_own o3) (ints_of_own o5)).mono ?_
    rintro e w6 ⟨rfl, b6⟩
    have b6 := b5.trans (b6.mono b5.size)
    go_wp2_with fail
    go_ret
    exact ⟨rfl, b6⟩

theorem w_FnExactMaskOf (n : Int) (v : Value) (xs : List Int) (w : World) (hn : (Lit.int .i64 n).wf = true) (h : Ints w v xs) (hwf : ∀ x ∈ xs, (Lit.int .i64 x).wf = true) :
    Calls Try.prog 7 #[.int .i64 n, v] w fun e w' => e = .returned (.bool true) ∧ Below w.heap.size w w' := by
  clear hwf hn
  have hc := h.cap
  unfold maxLen at hc
  have hv := h
  obtain ⟨_, a, c, b, o, rfl, _⟩ := h.opened
  have hv := Lib.hid hv
  clear h
  by_cases hlen : 1048576 < xs.length
  · go_enter Try.func7, Try.ntmps7
    go_wp2_with fail
    go_ret
    exact ⟨rfl, Below.refl _ _⟩
  · go_enter Try.func7, Try.ntmps7
    go_wp2_with fail
    refine (toInt64S_any _ xs _ hv.out (by omega)).mono ?_
    rintro e w1 ⟨v1, rfl, o1, b1⟩
    go_wp2_with fail
    refine (specMaskOf_any _ _ xs _ (ints_of_own o1)).mono ?_
    rintro e w2 ⟨rfl, rfl⟩
    go_wp2_with fail
    refine (toInt64S_any _ xs _ (hv.out.below b1 (Nat.le_refl _)) (by omega)).mono ?_
    rintro e w3 ⟨v3, rfl, o3, b3⟩
    have b3 := b1.trans (b3.mono b1.size)
    go_wp2_with fail
    refine (implMaskOf_any _ _ xs _ (ints_of_own o3)).mono ?_
    rintro e w4 ⟨rfl, rfl⟩
    go_wp2_with fail
    refine (toInt64S_any _ xs _ (hv.out.below b3 (Nat.le_refl _)) (by omega)).mono ?_
    rintro e w5 ⟨v5, rfl, o5, b5⟩
    have o3 := own_below o3 b5 (Nat.le_refl _)
    have b5 := b3.trans (b5.mono b3.size)
    go_wp2_with fail
    refine (eqInt64S_same _ _ xs _ (ints_of_own o3) (ints_of_own o5)).mono ?_
    rintro e w6 ⟨rfl, b6⟩
    have b6 := b5.trans (b6.mono b5.size)
    go_wp2_with fail
    go_ret
    exact ⟨rfl, b6⟩
end Go.Proofs.Ytkklbfgdogoloaa
