/- Walks of IsClause, of the program and of the reference. -/
import Derived.Test.YtobbhflajkhcdaaMasks
import Derived.Deep.QuietTactic
import Derived.BigQuiet
namespace Go.Proofs.Ytobbhflajkhcdaa
open Go.RowKit

/-- Whether element k of a list may stand in a clause, given the one before it. -/
def okAt (xs : List Int) (k : Nat) : Bool :=
  match xs[k]? with
  | none => true
  | some x => inR x 0 11 && (match k with | 0 => true | j + 1 => match xs[j]? with | none => true | some y => decide (y / 2 < x / 2))

def clauseB (xs : List Int) : Bool := (List.range xs.length).all (okAt xs)

theorem clause_no {xs : List Int} {k : Nat} (hk : k < xs.length) (h : okAt xs k = false) : clauseB xs = false := by
  unfold clauseB
  rw [List.all_eq_false]
  exact ⟨k, by simpa using hk, by simp [h]⟩

theorem clause_yes {xs : List Int} (h : ∀ i, i < xs.length → okAt xs i = true) : clauseB xs = true := by
  unfold clauseB
  rw [List.all_eq_true]
  intro i hi
  exact h i (by simpa using hi)

theorem clause_iff {xs : List Int} : clauseB xs = true ↔ ∀ i, i < xs.length → okAt xs i = true := by
  constructor
  · intro h i hi
    cases h2 : okAt xs i
    · rw [clause_no hi h2] at h; cases h
    · rfl
  · exact clause_yes

theorem okAt_zero {xs : List Int} {x : Int} (hx : xs[0]? = some x) : okAt xs 0 = inR x 0 11 := by simp [okAt, hx]
theorem okAt_succ {xs : List Int} {j : Nat} {x y : Int} (hx : xs[j + 1]? = some x) (hy : xs[j]? = some y) : okAt xs (j + 1) = (inR x 0 11 && decide (y / 2 < x / 2)) := by simp [okAt, hx, hy]
theorem okAt_in {xs : List Int} {k : Nat} {x : Int} (hx : xs[k]? = some x) (h : okAt xs k = true) : 0 ≤ x ∧ x ≤ 11 := by
  simp only [okAt, hx, Bool.and_eq_true] at h
  exact inR_iff.1 h.1
theorem okAt_out {xs : List Int} {k : Nat} {x : Int} (hx : xs[k]? = some x) (h : inR x 0 11 = false) : okAt xs k = false := by simp [okAt, hx, h]

set_option maxHeartbeats 800000 in
theorem specIsClause_any (v : Value) (xs : List Int) (w : World) (h : Ints w v xs) :
    Calls Try.prog 25 #[v] w fun e w' => e = .returned (.bool (clauseB xs)) ∧ Below w.heap.size w w' := by
  obtain ⟨hm, a, c, b, o, rfl, hc, h0, hcell⟩ := h.opened
  unfold maxLen at hm
  clear h
  rcases h0 with h0 | ⟨h0, rfl⟩
  all_goals
    go_enter Try.func25, Try.ntmps25
    go_wp2
    go_loopw [3] (fun i wr => ∃ k : Nat, k ≤ xs.length ∧ i = .int .i64 k ∧ Hid (∀ j, j < k → okAt xs j = true) ∧ Below w.heap.size w wr) (fun i _ => xs.length - (intOf i).toNat)
    case atStart => exact ⟨0, Nat.zero_le _, rfl, fun j hj => by omega, Below.refl _ _⟩
    case round =>
      obtain ⟨k, hk, rfl, hall, hb⟩ := hrel
      by_cases hlt : k < xs.length
      · all_goals try (exfalso; omega)
        all_goals
          obtain ⟨x, hx, hcx⟩ := hcell.out k hlt
          have hcx := (hb.cell (p := ⟨b, o + k, none⟩) (World.block_lt_of_cell? w _ hcx)).trans hcx
          have hx := Lib.hid hx
          cases hin : inR x 0 11
          · have hf := Lib.hid (clause_no hlt (okAt_out hx.out hin))
            go_wp2
            go_quiet ((go_at_call 41; exact quiet_eq (l01In_any _ _ _ _)))
            go_wp2
            go_ret
            exact ⟨ret_bool hf.out.symm, below_drewN hb _⟩
          · obtain ⟨x0, x1⟩ := inR_iff.1 hin
            rcases Nat.eq_zero_or_pos k with hk0 | hk0
            · subst hk0
              have hok := Lib.hid (show okAt xs 0 = true by rw [okAt_zero hx.out]; exact hin)
              rw [Nat.add_zero] at hcx
              go_wp2
              go_quiet ((go_at_call 41; exact quiet_eq (l01In_any _ _ _ _)))
              go_wp2
              go_roundw
              case rel =>
                refine ⟨1, by omega, by go_num, fun j hj => ?_, below_drewN hb _⟩
                obtain rfl : j = 0 := by omega
                exact hok.out
              case measure => simp [intOf]; omega
            · obtain ⟨y, hy, hcy⟩ := hcell.out (k - 1) (by omega)
              have hcy := (hb.cell (p := ⟨b, o + (k - 1), none⟩) (World.block_lt_of_cell? w _ hcy)).trans hcy
              have hy := Lib.hid hy
              have hok := Lib.hid (show okAt xs k = decide (y / 2 < x / 2) by
                obtain ⟨j, rfl⟩ : ∃ j, k = j + 1 := ⟨k - 1, by omega⟩
                rw [okAt_succ hx.out (by simpa using hy.out), hin]; rfl)
              have hyb := okAt_in hy.out (hall.out (k - 1) (by omega))
              have hd : decide ((0 : Int) < (k : Int)) = true := by simpa using hk0
              by_cases hlt2 : y / 2 < x / 2
              · have hok := Lib.hid (show okAt xs k = true by rw [hok.out]; simpa using hlt2)
                have hcmp : decide (x / 2 ≤ y / 2) = false := by simpa using hlt2
                go_wp2
                go_quiet ((go_at_call 41; exact quiet_eq (l01In_any _ _ _ _)))
                go_wp2
                go_roundw
                case rel =>
                  refine ⟨k + 1, by omega, by go_num, fun j hj => ?_, below_drewN hb _⟩
                  rcases Nat.lt_or_ge j k with h2 | h2
                  · exact hall.out j h2
                  · obtain rfl : j = k := by omega
                    exact hok.out
                case measure => simp [intOf]; omega
              · have hf := Lib.hid (clause_no hlt (show okAt xs k = false by rw [hok.out]; simpa using hlt2))
                have hcmp : decide (x / 2 ≤ y / 2) = true := by simpa using hlt2
                go_wp2
                go_quiet ((go_at_call 41; exact quiet_eq (l01In_any _ _ _ _)))
                go_wp2
                go_ret
                exact ⟨ret_bool hf.out.symm, below_drewN hb _⟩
      · obtain rfl : k = xs.length := by omega
        have hf := Lib.hid (clause_yes hall.out)
        go_wp2
        go_ret
        exact ⟨ret_bool hf.out.symm, hb⟩

set_option maxHeartbeats 800000 in
theorem isClause_any (v : Value) (xs : List Int) (w : World) (h : Ints w v xs) :
    Calls Try.prog 33 #[v] w fun e w' => e = .returned (.bool (clauseB xs)) ∧ w = w' := by
  obtain ⟨hm, a, c, b, o, rfl, hc, h0, hcell⟩ := h.opened
  unfold maxLen at hm
  clear h
  rcases h0 with h0 | ⟨h0, rfl⟩
  all_goals
    go_enter Try.func33, Try.ntmps33
    go_wp2
    go_loop [7] (fun i => ∃ k : Nat, k ≤ xs.length ∧ i = .int .i64 k ∧ Hid (∀ j, j < k → okAt xs j = true)) (fun i => xs.length - (intOf i).toNat)
    case atStart => exact ⟨0, Nat.zero_le _, rfl, fun j hj => by omega⟩
    case round =>
      obtain ⟨k, hk, rfl, hall⟩ := hrel
      by_cases hlt : k < xs.length
      · all_goals try (exfalso; omega)
        all_goals
          obtain ⟨x, hx, hcx⟩ := hcell.out k hlt
          have hx := Lib.hid hx
          cases hin : inR x 0 11
          · have hf := Lib.hid (clause_no hlt (okAt_out hx.out hin))
            go_wp2_with (go_at_call 44; refine (inRange_any _ _ _ _).mono ?_; rintro e w' ⟨rfl, rfl⟩)
            go_ret
            exact ⟨ret_bool hf.out.symm, rfl⟩
          · obtain ⟨x0, x1⟩ := inR_iff.1 hin
            rcases Nat.eq_zero_or_pos k with hk0 | hk0
            · subst hk0
              have hok := Lib.hid (show okAt xs 0 = true by rw [okAt_zero hx.out]; exact hin)
              rw [Nat.add_zero] at hcx
              go_wp2_with (go_at_call 44; refine (inRange_any _ _ _ _).mono ?_; rintro e w' ⟨rfl, rfl⟩)
              go_round
              case rel =>
                refine ⟨1, by omega, by go_num, fun j hj => ?_⟩
                obtain rfl : j = 0 := by omega
                exact hok.out
              case measure => simp [intOf]; omega
            · obtain ⟨y, hy, hcy⟩ := hcell.out (k - 1) (by omega)
              have hy := Lib.hid hy
              have hok := Lib.hid (show okAt xs k = decide (y / 2 < x / 2) by
                obtain ⟨j, rfl⟩ : ∃ j, k = j + 1 := ⟨k - 1, by omega⟩
                rw [okAt_succ hx.out (by simpa using hy.out), hin]; rfl)
              have hyb := okAt_in hy.out (hall.out (k - 1) (by omega))
              by_cases hlt2 : y / 2 < x / 2
              · have hok := Lib.hid (show okAt xs k = true by rw [hok.out]; simpa using hlt2)
                have hyx : y < x := by omega
                have hne : (y / 2 == x / 2) = false := by rw [beq_eq_false_iff_ne]; omega
                go_wp2_with (go_at_call 44; refine (inRange_any _ _ _ _).mono ?_; rintro e w' ⟨rfl, rfl⟩)
                go_round
                case rel =>
                  refine ⟨k + 1, by omega, by go_num, fun j hj => ?_⟩
                  rcases Nat.lt_or_ge j k with h2 | h2
                  · exact hall.out j h2
                  · obtain rfl : j = k := by omega
                    exact hok.out
                case measure => simp [intOf]; omega
              · have hf := Lib.hid (clause_no hlt (show okAt xs k = false by rw [hok.out]; simpa using hlt2))
                by_cases hyx : x ≤ y
                · go_wp2_with (go_at_call 44; refine (inRange_any _ _ _ _).mono ?_; rintro e w' ⟨rfl, rfl⟩)
                  go_ret
                  exact ⟨ret_bool hf.out.symm, rfl⟩
                · have hne : (y / 2 == x / 2) = true := by rw [beq_iff_eq]; omega
                  go_wp2_with (go_at_call 44; refine (inRange_any _ _ _ _).mono ?_; rintro e w' ⟨rfl, rfl⟩)
                  go_ret
                  exact ⟨ret_bool hf.out.symm, rfl⟩
      · obtain rfl : k = xs.length := by omega
        have hf := Lib.hid (clause_yes hall.out)
        go_wp2
        go_ret
        exact ⟨ret_bool hf.out.symm, rfl⟩

end Go.Proofs.Ytobbhflajkhcdaa
