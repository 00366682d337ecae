/- impl.isGoodResolvent at numbers within their bounds. -/
import Derived.Test.YtggelkhfkhbgmaaFbGood
namespace Go.Proofs.Ytggelkhfkhbgmaa
open Go.RowKit
set_option linter.unusedVariables false
set_option linter.unusedSimpArgs false

theorem resAt_at {S : List Stp} {i j k : Nat} {A B : Stp} {xs : List Int} (hA : S[i]? = some A) (hB : S[j]? = some B) : resAt S (i : Int) (j : Int) (k : Int) xs = (resOk A.1 B.1 k && decide (resL A.1 B.1 k = xs)) := by
  unfold resAt
  simp only [Int.toNat_natCast, hA, hB]
theorem nat_ne_no (i : Nat) : (((i : Nat) : Int) == -1) = false := by
  rw [beq_eq_false_iff_ne]
  omega
set_option maxHeartbeats 8000000 in
set_option maxRecDepth 100000 in
theorem isGood_in (vI vS : Value) (Is : List (List Int)) (S : List Stp) (xs : List Int) (u : Option Addr) (cp : Nat) (i j k : Nat) (w : World) (hS : Steps w vS S) (hx : Ints w (.slice u xs.length cp) xs)
    (hc : ∀ (i : Nat) (s : Stp), S[i]? = some s → clauseB s.1 = true) (hi : i < S.length) (hj : j < S.length) (hk : k < 6) :
    Calls Try.prog 32 #[vI, vS, .agg #[.slice u xs.length cp, .int .i64 (i : Int), .int .i64 (j : Int), .int .i64 (k : Int)]] w fun e w' => e = .returned (.bool (fineB Is S (xs, (i : Int), (j : Int), (k : Int)))) ∧ Below w.heap.size w w' := by
  obtain ⟨hm, a, c, b, o, rfl, hcc, ha, hcell⟩ := hS.opened
  have ha2 : a = some ⟨b, o, none⟩ := by
    rcases ha with h | ⟨_, h⟩
    · exact absurd h (by omega)
    · exact h
  subst ha2
  clear ha hS
  unfold maxLen at hm
  have r1 := inR_yes (x := (i : Int)) (a := 0) (b := (S.length : Int) - 1) (by omega) (by omega)
  have r2 := inR_yes (x := (j : Int)) (a := 0) (b := (S.length : Int) - 1) (by omega) (by omega)
  have r3 := inR_yes (x := (k : Int)) (a := 0) (b := 5) (by omega) (by omega)
  have hres := fineB_in (Is := Is) (xs := xs) (x := (i : Int)) (y := (j : Int)) (z := (k : Int)) (S := S) (by rw [r1, r2, r3]; rfl)
  obtain ⟨xA, _, _, _, uA, nA, cA, hA, dA, inA, _, _, _⟩ := hcell.out i hi
  obtain ⟨xB, _, _, _, uB, nB, cB, hB, dB, inB, _, _, _⟩ := hcell.out j hj
  have ccA := hc i _ hA
  have ccB := hc j _ hB
  rw [resAt_at hA hB] at hres
  rw [hres]
  clear hres hc hcell hA hB
  have r1 := Lib.hid r1
  have r2 := Lib.hid r2
  have r3 := Lib.hid r3
  have e1 := nat_ne_no i
  have B1 : Below w.heap.size w (w.alloc (.cells #[.slice u xs.length cp, .int .i64 (i : Int), .int .i64 (j : Int), .int .i64 (k : Int)] 47)) := (Below.refl _ _).alloc (Nat.le_refl _) _
  have hr := Lib.hid (fun W (hb : Below w.heap.size w W) => resolve_any (.slice uA nA cA) (.slice uB nB cB) xA xB k W (inA.below hb (Nat.le_refl _)) (inB.below hb (Nat.le_refl _)) ccA ccB hk)
  have heq := Lib.hid (fun v zs W (hb : Below w.heap.size w W) (hz : Ints W v zs) => equalI_any v (.slice u xs.length cp) zs xs W hz (hx.below hb (Nat.le_refl _)))
  have dA := keep_cell B1 dA
  have dB := keep_cell B1 dB
  clear inA inB hx ccA ccB
  generalize resL xA xB k = RL at *
  generalize resOk xA xB k = RO at *
  go_enter Try.func32, Try.ntmps32
  go_wp2_with fail
  refine (inRange_any _ _ _ _).mono ?_
  rintro e w' ⟨rfl, rfl⟩
  rw [r1.out]
  go_wp2_with fail
  refine (inRange_any _ _ _ _).mono ?_
  rintro e w' ⟨rfl, rfl⟩
  rw [r2.out]
  go_wp2_with fail
  refine (isVariableB_any _ _).mono ?_
  rintro e w' ⟨rfl, rfl⟩
  rw [r3.out]
  go_wp2_with fail
  have c0 : (w.alloc (.cells #[.slice u xs.length cp, .int .i64 (i : Int), .int .i64 (j : Int), .int .i64 (k : Int)] 47)).cell? ⟨w.heap.size, 0, none⟩ = some (.slice u xs.length cp) := by simp
  have c1 : (w.alloc (.cells #[.slice u xs.length cp, .int .i64 (i : Int), .int .i64 (j : Int), .int .i64 (k : Int)] 47)).cell? ⟨w.heap.size, 1, none⟩ = some (.int .i64 (i : Int)) := by simp
  have c2 : (w.alloc (.cells #[.slice u xs.length cp, .int .i64 (i : Int), .int .i64 (j : Int), .int .i64 (k : Int)] 47)).cell? ⟨w.heap.size, 2, none⟩ = some (.int .i64 (j : Int)) := by simp
  have c3 : (w.alloc (.cells #[.slice u xs.length cp, .int .i64 (i : Int), .int .i64 (j : Int), .int .i64 (k : Int)] 47)).cell? ⟨w.heap.size, 3, none⟩ = some (.int .i64 (k : Int)) := by simp
  generalize (w.alloc (.cells #[.slice u xs.length cp, .int .i64 (i : Int), .int .i64 (j : Int), .int .i64 (k : Int)] 47)) = w1 at *
  clear r1 r2 r3
  (first | (go_region_held3 (fun W => Below w.heap.size w W ∧ W.cell? ⟨w.heap.size, 0, none⟩ = some (.slice u xs.length cp) ∧ W.cell? ⟨w.heap.size, 1, none⟩ = some (.int .i64 (i : Int)) ∧ W.cell? ⟨w.heap.size, 2, none⟩ = some (.int .i64 (j : Int)) ∧ W.cell? ⟨w.heap.size, 3, none⟩ = some (.int .i64 (k : Int)) ∧ W.cell? ⟨b, o + i * 4, none⟩ = some (.slice uA nA cA) ∧ W.cell? ⟨b, o + j * 4, none⟩ = some (.slice uB nB cB)) (first | (refine ⟨?_, ?_, ?_, ?_, ?_, ?_, ?_⟩ <;> (first | assumption | (exact Below.drew (by assumption)))) | (obtain ⟨hs1, hs2, hs3, hs4, hs5, hs6, hs7⟩ := ‹Below _ _ _ ∧ _ ∧ _ ∧ _ ∧ _ ∧ _ ∧ _›; exact ⟨keep_step (by assumption) hs1, keep_cell (by assumption) hs2, keep_cell (by assumption) hs3, keep_cell (by assumption) hs4, keep_cell (by assumption) hs5, keep_cell (by assumption) hs6, keep_cell (by assumption) hs7⟩)) (first | (go_at_call 40; refine (hr.out _ (And.left ‹Below w.heap.size w _ ∧ _ ∧ _ ∧ _ ∧ _ ∧ _ ∧ _›)).mono ?_; rintro e w' ⟨v2, rfl, hown, hb'⟩))) | fail)
  all_goals
    obtain ⟨hs1, hs2, _⟩ := ‹Below w.heap.size w _ ∧ _ ∧ _ ∧ _ ∧ _ ∧ _ ∧ _›
    cases RO
    · go_wp2_with fail
      go_ret
      exact ⟨rfl, hs1⟩
    · have hq := Lib.hid (heq.out v2 RL _ hs1 (ints_of_own (hown.out rfl)))
      clear hown hr c0 c1 c2 c3 dA dB
      go_wp2_with fail
      refine hq.out.mono ?_
      rintro e w2 ⟨rfl, b2⟩
      go_wp2_with fail
      go_ret
      exact ⟨rfl, keep_step b2 hs1⟩

theorem isGood_any (vI vS : Value) (Is : List (List Int)) (S : List Stp) (s : Stp) (u : Option Addr) (cp : Nat) (w : World) (hI : Fi w vI Is) (hS : Steps w vS S) (hx : Ints w (.slice u s.1.length cp) s.1)
    (hc : ∀ (i : Nat) (s : Stp), S[i]? = some s → clauseB s.1 = true) (hl : S.length ≤ 4611686018427387904) :
    Calls Try.prog 32 #[vI, vS, .agg #[.slice u s.1.length cp, .int .i64 s.2.1, .int .i64 s.2.2.1, .int .i64 s.2.2.2]] w fun e w' => e = .returned (.bool (fineB Is S s)) ∧ Below w.heap.size w w' := by
  obtain ⟨xs, x, y, z⟩ := s
  by_cases h : x = -1 ∧ y = -1 ∧ z = -1
  · obtain ⟨rfl, rfl, rfl⟩ := h
    exact isGood_start vI vS Is S xs u cp w hI hx
  · cases ho : (inR x 0 ((S.length : Int) - 1) && inR y 0 ((S.length : Int) - 1) && inR z 0 5)
    · obtain ⟨_, a, c, _, _, rfl, _⟩ := hS
      exact isGood_out vI a c Is S xs u cp x y z w hl h ho
    · simp only [Bool.and_eq_true, inR_iff] at ho
      obtain ⟨i, rfl⟩ : ∃ i : Nat, x = (i : Int) := ⟨x.toNat, by omega⟩
      obtain ⟨j, rfl⟩ : ∃ j : Nat, y = (j : Int) := ⟨y.toNat, by omega⟩
      obtain ⟨k, rfl⟩ : ∃ k : Nat, z = (k : Int) := ⟨z.toNat, by omega⟩
      exact isGood_in vI vS Is S xs u cp i j k w hS hx hc (by omega) (by omega) (by omega)
end Go.Proofs.Ytggelkhfkhbgmaa
