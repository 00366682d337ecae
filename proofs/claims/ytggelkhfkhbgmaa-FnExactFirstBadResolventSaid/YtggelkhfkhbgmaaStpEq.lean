/- The laws' equality of slices of steps; what an argument of steps reads as. -/
import Derived.Test.YtggelkhfkhbgmaaStpLaw
import Derived.Test.YtggelkhfkhbgmaaOpen
namespace Go.Proofs.Ytggelkhfkhbgmaa
open Go.RowKit
set_option linter.unusedVariables false

set_option maxHeartbeats 4000000 in
theorem eqResolventS_same (v v' : Value) (S : List Stp) (w : World) (h : Steps w v S) (h' : Steps w v' S) :
    Calls Try.prog 19 #[v, v'] w fun e w' => e = .returned (.bool true) ∧ Below w.heap.size w w' := by
  obtain ⟨hm, a, c, b, o, rfl, hc, ha, hcell⟩ := h.opened
  obtain ⟨_, a', c', b', o', rfl, hc', ha', hcell'⟩ := h'.opened
  unfold maxLen at hm
  clear h h'
  have hz : S.length ≤ 0 ∨ (0 < S.length ∧ a = some ⟨b, o, none⟩ ∧ a' = some ⟨b', o', none⟩) := by
    rcases ha with h0 | ⟨h0, e⟩
    · exact .inl h0
    · rcases ha' with h1 | ⟨_, e'⟩
      · omega
      · exact .inr ⟨h0, e, e'⟩
  clear ha ha'
  rcases hz with h0 | ⟨h0, rfl, rfl⟩
  · go_enter Try.func19, Try.ntmps19
    go_wp2_with fail
    refine wp_loop_rounds 1 ?_
    rw [rounds_succ]
    go_wp2_with fail
    go_ret
    exact ⟨rfl, Below.refl _ _⟩
  · go_enter Try.func19, Try.ntmps19
    go_wp2_with fail
    go_loopw [5] (fun i wr => ∃ k : Nat, k ≤ S.length ∧ i = .int .i64 k ∧ Below w.heap.size w wr) (fun i _ => S.length - (intOf i).toNat)
    case atStart => exact ⟨0, Nat.zero_le _, rfl, Below.refl _ _⟩
    case round =>
      obtain ⟨k, hk, rfl, hb⟩ := hrel
      by_cases hlt : k < S.length
      · obtain ⟨xs, x, y, z, u, n, cp, hS, c0, hin, c1, c2, c3⟩ := hcell.out k hlt
        obtain ⟨_, _, e0⟩ := hin.shape
        injection e0 with e1 e2 e3
        subst e2; clear e1 e3
        obtain ⟨xs', x', y', z', u', n', cp', hS', d0, hin', d1, d2, d3⟩ := hcell'.out k hlt
        obtain ⟨rfl, rfl, rfl, rfl⟩ : xs = xs' ∧ x = x' ∧ y = y' ∧ z = z' := by rw [hS] at hS'; simpa using hS'
        obtain ⟨_, _, e0⟩ := hin'.shape
        injection e0 with e1 e2 e3
        subst e2; clear e1 e3
        have heq := Lib.hid (fun W (hb : Below w.heap.size w W) => eqResolvent_same u u' cp cp' xs x y z W (hin.below hb (Nat.le_refl _)) (hin'.below hb (Nat.le_refl _)))
        have c0 := keep_cell hb c0
        have c1 := keep_cell hb c1
        have c2 := keep_cell hb c2
        have c3 := keep_cell hb c3
        have d0 := keep_cell hb d0
        have d1 := keep_cell hb d1
        have d2 := keep_cell hb d2
        have d3 := keep_cell hb d3
        clear hS hS' hin hin'
        go_wp2_with fail
        (first | (go_region_held3 (fun W => Below w.heap.size w W ∧ W.cell? ⟨b, o + k * 4, none⟩ = some (.slice u xs.length cp) ∧ W.cell? ⟨b, o + k * 4 + 1, none⟩ = some (.int .i64 x) ∧ W.cell? ⟨b, o + k * 4 + 2, none⟩ = some (.int .i64 y) ∧ W.cell? ⟨b, o + k * 4 + 3, none⟩ = some (.int .i64 z) ∧ W.cell? ⟨b', o' + k * 4, none⟩ = some (.slice u' xs.length cp') ∧ W.cell? ⟨b', o' + k * 4 + 1, none⟩ = some (.int .i64 x) ∧ W.cell? ⟨b', o' + k * 4 + 2, none⟩ = some (.int .i64 y) ∧ W.cell? ⟨b', o' + k * 4 + 3, none⟩ = some (.int .i64 z)) (first | (refine ⟨?_, ?_, ?_, ?_, ?_, ?_, ?_, ?_, ?_⟩ <;> (first | assumption | (exact Below.drew (by assumption)))) | (obtain ⟨hs1, hs2, hs3, hs4, hs5, hs6, hs7, hs8, hs9⟩ := ‹Below _ _ _ ∧ _ ∧ _ ∧ _ ∧ _ ∧ _ ∧ _ ∧ _ ∧ _›; exact ⟨keep_step (by assumption) hs1, keep_cell (by assumption) hs2, keep_cell (by assumption) hs3, keep_cell (by assumption) hs4, keep_cell (by assumption) hs5, keep_cell (by assumption) hs6, keep_cell (by assumption) hs7, keep_cell (by assumption) hs8, keep_cell (by assumption) hs9⟩)) (first | (go_at_call 33; refine (heq.out _ (And.left ‹Below w.heap.size w _ ∧ _ ∧ _ ∧ _ ∧ _ ∧ _ ∧ _ ∧ _ ∧ _›)).mono ?_; rintro e w' ⟨rfl, hb'⟩))) | fail)
        all_goals
          go_wp2_with fail
          go_roundw
          case rel => exact ⟨k + 1, by omega, by go_num, by first | assumption | exact (‹Below w.heap.size w _ ∧ _ ∧ _ ∧ _ ∧ _ ∧ _ ∧ _ ∧ _ ∧ _›).1⟩
          case measure => simp [intOf]; omega
      · obtain rfl : k = S.length := by omega
        go_wp2_with fail
        go_ret
        exact ⟨rfl, hb⟩
end Go.Proofs.Ytggelkhfkhbgmaa
