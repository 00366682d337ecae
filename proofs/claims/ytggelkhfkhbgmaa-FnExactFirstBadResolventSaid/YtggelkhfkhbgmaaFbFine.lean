/- spec.l04Fine. -/
import Derived.Test.YtggelkhfkhbgmaaFbImpl
import Derived.Test.YtggelkhfkhbgmaaResSpec
namespace Go.Proofs.Ytggelkhfkhbgmaa
open Go.RowKit
set_option linter.unusedVariables false
set_option linter.unusedSimpArgs false

set_option maxHeartbeats 4000000 in
theorem fine_not (vI vS : Value) (S : List Stp) (k : Nat) (s : Stp) (w : World) (hS : Steps w vS S) (hs : S[k]? = some s) (hcl : clauseB s.1 = false) :
    Calls Try.prog 29 #[vI, vS, .int .i64 (k : Int)] w fun e w' => e = .returned (.bool false) ∧ Below w.heap.size w w' := by
  obtain ⟨hm, a, c, b, o, rfl, hcc, ha, hcell⟩ := hS.opened
  have hk : k < S.length := (List.getElem?_eq_some_iff.1 hs).1
  have ha2 : a = some ⟨b, o, none⟩ := by
    rcases ha with h | ⟨_, h⟩
    · exact absurd h (by omega)
    · exact h
  subst ha2
  obtain ⟨xs, x, y, z, u, n, cp, hS2, c0, hin, c1, c2, c3⟩ := hcell.out k hk
  rw [hs] at hS2
  obtain rfl := Option.some.inj hS2
  unfold maxLen at hm
  have B1 := Lib.hid ((Below.refl w.heap.size w).alloc (Nat.le_refl _) (.cells #[.slice u n cp, .int .i64 x, .int .i64 y, .int .i64 z] 47))
  have hq := Lib.hid (specIsClause_any (.slice u n cp) xs _ (hin.below B1.out (Nat.le_refl _)))
  rw [hcl] at hq
  clear hcell ha hS hs hS2 hcl hin
  go_enter Try.func29, Try.ntmps29
  go_wp2_with fail
  refine hq.out.mono ?_
  rintro e w' ⟨rfl, hb⟩
  go_wp2_with fail
  go_ret
  exact ⟨rfl, B1.out.trans (hb.mono B1.out.size)⟩

set_option maxHeartbeats 8000000 in
theorem fine_start (vI vS : Value) (Is : List (List Int)) (S T : List Stp) (k : Nat) (xs : List Int) (w : World) (hI : Fi w vI Is) (hS : Steps w vS S) (hs : S[k]? = some (xs, -1, -1, -1)) (hcl : clauseB xs = true) :
    Calls Try.prog 29 #[vI, vS, .int .i64 (k : Int)] w fun e w' => e = .returned (.bool (fineB Is T (xs, -1, -1, -1))) ∧ Below w.heap.size w w' := by
  obtain ⟨hm, a, c, b, o, rfl, hcc, ha, hcell⟩ := hS.opened
  have hk : k < S.length := (List.getElem?_eq_some_iff.1 hs).1
  have ha2 : a = some ⟨b, o, none⟩ := by
    rcases ha with h | ⟨_, h⟩
    · exact absurd h (by omega)
    · exact h
  subst ha2
  obtain ⟨ys, x, y, z, u, n, cp, hS2, c0, hin, c1, c2, c3⟩ := hcell.out k hk
  rw [hs] at hS2
  obtain ⟨rfl, rfl, rfl, rfl⟩ : xs = ys ∧ -1 = x ∧ -1 = y ∧ -1 = z := by simpa using hS2
  unfold maxLen at hm
  have B1 := (Below.refl w.heap.size w).alloc (Nat.le_refl _) (.cells #[.slice u n cp, .int .i64 (-1), .int .i64 (-1), .int .i64 (-1)] 47)
  have hq := Lib.hid (specIsClause_any (.slice u n cp) xs _ (hin.below B1 (Nat.le_refl _)))
  rw [hcl] at hq
  have hres := Lib.hid (fineB_start Is T xs)
  generalize fineB Is T (xs, -1, -1, -1) = R at *
  obtain ⟨aI, cI, bI, oI, rfl, hcI, hmI, haI, hcellI⟩ := hI.cells
  unfold maxLen at hmI
  have hsame := Lib.hid (fun v zs W (hz : Ints W v zs) (hb : Below w.heap.size w W) => l01Same_any v (.slice u n cp) zs xs W hz (hin.below hb (Nat.le_refl _)))
  have d0 : (w.alloc (.cells #[.slice u n cp, .int .i64 (-1), .int .i64 (-1), .int .i64 (-1)] 47)).cell? ⟨w.heap.size, 0, none⟩ = some (.slice u n cp) := by simp
  have haIh := Lib.hid haI
  clear hcell ha hS hs hS2 hcl hin hI haI
  go_enter Try.func29, Try.ntmps29
  go_wp2_with fail
  refine hq.out.mono ?_
  rintro e w2 ⟨rfl, hb⟩
  have c0' := keep_cell hb d0
  have c1' := keep_cell hb (show (w.alloc (.cells #[.slice u n cp, .int .i64 (-1), .int .i64 (-1), .int .i64 (-1)] 47)).cell? ⟨w.heap.size, 1, none⟩ = some (.int .i64 (-1)) by simp)
  have c2' := keep_cell hb (show (w.alloc (.cells #[.slice u n cp, .int .i64 (-1), .int .i64 (-1), .int .i64 (-1)] 47)).cell? ⟨w.heap.size, 2, none⟩ = some (.int .i64 (-1)) by simp)
  have c3' := keep_cell hb (show (w.alloc (.cells #[.slice u n cp, .int .i64 (-1), .int .i64 (-1), .int .i64 (-1)] 47)).cell? ⟨w.heap.size, 3, none⟩ = some (.int .i64 (-1)) by simp)
  have hB2 := keep_step hb B1
  clear hb B1 d0 c0 c1 c2 c3
  go_wp2_with fail
  go_loopw [8] (fun i wr => ∃ j : Nat, j ≤ Is.length ∧ i = .int .i64 j ∧ Hid (∀ q I, q < j → Is[q]? = some I → I ≠ xs) ∧ Below w.heap.size w wr ∧ wr.cell? ⟨w.heap.size, 0, none⟩ = some (.slice u n cp)) (fun i _ => Is.length - (intOf i).toNat)
  case atStart => exact ⟨0, Nat.zero_le _, rfl, fun q I hq => by omega, hB2, c0'⟩
  case round =>
    clear c0' c1' c2' c3' hB2
    obtain ⟨j, hj, rfl, hall, hb, c0'⟩ := hrel
    by_cases hlt : j < Is.length
    · obtain rfl := haIh.out (by omega)
      obtain ⟨vJ, J, hJ, hcJ, hnJ⟩ := hcellI.out j hlt
      have hcJ := keep_cell hb hcJ
      obtain ⟨a1, cp1, rfl⟩ := hnJ.shape
      have hsm := Lib.hid (fun W (hb : Below w.heap.size w W) => hsame.out _ J W (hnJ.below hb (Nat.le_refl _)) hb)
      have hJ := Lib.hid hJ
      clear hnJ
      go_wp2_with fail
      (first | (go_region_held3 (fun W => Below w.heap.size w W ∧ W.cell? ⟨w.heap.size, 0, none⟩ = some (.slice u n cp) ∧ W.cell? ⟨bI, oI + j, none⟩ = some (.slice a1 J.length cp1)) (first | (refine ⟨?_, ?_, ?_⟩ <;> (first | assumption | (exact Below.drew (by assumption)))) | (obtain ⟨hs1, hs2, hs3⟩ := ‹Below _ _ _ ∧ _ ∧ _›; exact ⟨keep_step (by assumption) hs1, keep_cell (by assumption) hs2, keep_cell (by assumption) hs3⟩)) (first | (go_at_call 36; refine (hsm.out _ (And.left ‹Below w.heap.size w _ ∧ _ ∧ _›)).mono ?_; rintro e w' ⟨rfl, hb'⟩))) | fail)
      all_goals
        obtain ⟨hs1, hs2, _⟩ := ‹Below w.heap.size w _ ∧ _ ∧ _›
        cases he : decide (J = xs)
        · have hall2 := Lib.hid (show ∀ q I, q < j + 1 → Is[q]? = some I → I ≠ xs from fun q I hq hI => by
            rcases Nat.lt_or_ge q j with h1 | h1
            · exact hall.out q I h1 hI
            · obtain rfl : q = j := by omega
              rw [hJ.out] at hI
              obtain rfl := Option.some.inj hI
              simpa using he)
          go_wp2_with fail
          go_roundw
          case rel => exact ⟨j + 1, by omega, by go_num, hall2, hs1, hs2⟩
          case measure => simp [intOf]; omega
        · have hf := Lib.hid (show R = true by
            rw [hres.out, decide_eq_true_eq]
            obtain rfl : J = xs := by simpa using he
            exact List.mem_of_getElem? hJ.out)
          go_wp2_with fail
          go_ret
          exact ⟨ret_bool hf.out.symm, hs1⟩
    · obtain rfl : j = Is.length := by omega
      have hf := Lib.hid (show R = false by
        rw [hres.out]
        refine decide_eq_false fun h => ?_
        obtain ⟨q, hq⟩ := List.getElem?_of_mem h
        exact hall.out q xs (List.getElem?_eq_some_iff.1 hq).1 hq rfl)
      go_wp2_with fail
      go_ret
      exact ⟨ret_bool hf.out.symm, hb⟩

set_option maxHeartbeats 8000000 in
theorem fine_out (vI vS : Value) (Is : List (List Int)) (S T : List Stp) (k : Nat) (xs : List Int) (x y z : Int) (w : World) (hS : Steps w vS S) (hs : S[k]? = some (xs, x, y, z)) (hcl : clauseB xs = true) (hl : T.length = k)
    (h : ¬ (x = -1 ∧ y = -1 ∧ z = -1)) (ho : (inR x 0 ((T.length : Int) - 1) && inR y 0 ((T.length : Int) - 1) && inR z 0 5) = false) :
    Calls Try.prog 29 #[vI, vS, .int .i64 (k : Int)] w fun e w' => e = .returned (.bool (fineB Is T (xs, x, y, z))) ∧ Below w.heap.size w w' := by
  rw [fineB_out (Is := Is) (xs := xs) h ho]
  have hcs := out_cases h ho
  rw [hl] at hcs
  clear h ho hl
  obtain ⟨hm, a, c, b, o, rfl, hcc, ha, hcell⟩ := hS.opened
  have hk : k < S.length := (List.getElem?_eq_some_iff.1 hs).1
  have ha2 : a = some ⟨b, o, none⟩ := by
    rcases ha with h | ⟨_, h⟩
    · exact absurd h (by omega)
    · exact h
  subst ha2
  obtain ⟨ys, x', y', z', u, n, cp, hS2, c0, hin, c1, c2, c3⟩ := hcell.out k hk
  rw [hs] at hS2
  obtain ⟨rfl, rfl, rfl, rfl⟩ : xs = ys ∧ x = x' ∧ y = y' ∧ z = z' := by simpa using hS2
  unfold maxLen at hm
  have B1 := (Below.refl w.heap.size w).alloc (Nat.le_refl _) (.cells #[.slice u n cp, .int .i64 x, .int .i64 y, .int .i64 z] 47)
  have hq := Lib.hid (specIsClause_any (.slice u n cp) xs _ (hin.below B1 (Nat.le_refl _)))
  rw [hcl] at hq
  clear hcell ha hS hs hS2 hcl hin
  rcases hcs with ⟨h1, h2⟩ | ⟨h1, h2, h3⟩ | ⟨h1, h2, h3, h4⟩ | ⟨rfl, h1, h2⟩ | ⟨rfl, rfl, h1, h2⟩
  all_goals
    have e1 := ne_no h1
    have h2 := Lib.hid h2
    try have h3 := Lib.hid h3
    try have h4 := Lib.hid h4
    clear h1
    go_enter Try.func29, Try.ntmps29
    go_wp2_with fail
    refine hq.out.mono ?_
    rintro e w2 ⟨rfl, hb⟩
    obtain ⟨hc, hf⟩ := bcellS hb
    have hB2 := Lib.hid (keep_step hb B1)
    clear hb B1 c0 c1 c2 c3
    go_wp2_with fail
    refine (l01In_any _ _ _ _).mono ?_
    rintro e w' ⟨rfl, rfl⟩
    rw [h2.out]
    go_wp2_with fail
  · go_ret
    exact ⟨rfl, hB2.out⟩
  · refine (l01In_any _ _ _ _).mono ?_
    rintro e w' ⟨rfl, rfl⟩
    rw [h3.out]
    go_wp2_with fail
    go_ret
    exact ⟨rfl, hB2.out⟩
  · refine (l01In_any _ _ _ _).mono ?_
    rintro e w' ⟨rfl, rfl⟩
    rw [h3.out]
    go_wp2_with fail
    refine (l01In_any _ _ _ _).mono ?_
    rintro e w' ⟨rfl, rfl⟩
    rw [h4.out]
    go_wp2_with fail
    go_ret
    exact ⟨rfl, hB2.out⟩
  · go_ret
    exact ⟨rfl, hB2.out⟩
  · go_ret
    exact ⟨rfl, hB2.out⟩
end Go.Proofs.Ytggelkhfkhbgmaa
