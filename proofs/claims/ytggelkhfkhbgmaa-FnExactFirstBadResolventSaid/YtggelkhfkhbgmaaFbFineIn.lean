/- spec.l04Fine at numbers within their bounds; spec.FirstBadResolvent. -/
import Derived.Test.YtggelkhfkhbgmaaFbFine
import Derived.Test.YtggelkhfkhbgmaaResSpec
namespace Go.Proofs.Ytggelkhfkhbgmaa
open Go.RowKit
set_option linter.unusedVariables false
set_option linter.unusedSimpArgs false

set_option maxHeartbeats 8000000 in
set_option maxRecDepth 100000 in
theorem fine_in (vI vS : Value) (Is : List (List Int)) (S T : List Stp) (m : Nat) (xs : List Int) (i j k : Nat) (w : World) (hS : Steps w vS S) (hs : S[m]? = some (xs, (i : Int), (j : Int), (k : Int))) (hcl : clauseB xs = true) (hT : T = S.take m)
    (hc : ∀ (i : Nat) (s : Stp), T[i]? = some s → clauseB s.1 = true) (hi : i < T.length) (hj : j < T.length) (hk : k < 6) :
    Calls Try.prog 29 #[vI, vS, .int .i64 (m : Int)] w fun e w' => e = .returned (.bool (fineB Is T (xs, (i : Int), (j : Int), (k : Int)))) ∧ Below w.heap.size w w' := by
  obtain ⟨hm, a, c, b, o, rfl, hcc, ha, hcell⟩ := hS.opened
  have hmm : m < S.length := (List.getElem?_eq_some_iff.1 hs).1
  have hTl : T.length = m := by rw [hT, List.length_take]; omega
  have ha2 : a = some ⟨b, o, none⟩ := by
    rcases ha with h | ⟨_, h⟩
    · exact absurd h (by omega)
    · exact h
  subst ha2
  obtain ⟨ys, x', y', z', u, n, cp, hS2, c0, hin, c1, c2, c3⟩ := hcell.out m hmm
  rw [hs] at hS2
  obtain ⟨rfl, rfl, rfl, rfl⟩ : xs = ys ∧ (i : Int) = x' ∧ (j : Int) = y' ∧ (k : Int) = z' := by simpa using hS2
  unfold maxLen at hm
  rw [hTl] at hi hj
  have hi2 : i < S.length := by omega
  have hj2 : j < S.length := by omega
  have r1 := inR_yes (x := (i : Int)) (a := 0) (b := (m : Int) - 1) (by omega) (by omega)
  have r2 := inR_yes (x := (j : Int)) (a := 0) (b := (m : Int) - 1) (by omega) (by omega)
  have r3 := inR_yes (x := (k : Int)) (a := 0) (b := 5) (by omega) (by omega)
  have hres := fineB_in (Is := Is) (xs := xs) (x := (i : Int)) (y := (j : Int)) (z := (k : Int)) (S := T) (by rw [hTl, r1, r2, r3]; rfl)
  obtain ⟨xA, _, _, _, uA, nA, cA, hA, dA, inA, _, _, _⟩ := hcell.out i (by omega)
  obtain ⟨xB, _, _, _, uB, nB, cB, hB, dB, inB, _, _, _⟩ := hcell.out j (by omega)
  have hA2 := hA
  have hB2 := hB
  rw [show S[i]? = T[i]? by rw [hT, List.getElem?_take, if_pos hi]] at hA2
  rw [show S[j]? = T[j]? by rw [hT, List.getElem?_take, if_pos hj]] at hB2
  have ccA := hc i _ hA2
  have ccB := hc j _ hB2
  rw [resAt_at hA2 hB2] at hres
  rw [hres]
  have B1 := (Below.refl w.heap.size w).alloc (Nat.le_refl _) (.cells #[.slice u n cp, .int .i64 (i : Int), .int .i64 (j : Int), .int .i64 (k : Int)] 47)
  have hq := Lib.hid (specIsClause_any (.slice u n cp) xs _ (hin.below B1 (Nat.le_refl _)))
  rw [hcl] at hq
  have hr := Lib.hid (fun W (hb : Below w.heap.size w W) => l04Resolve_any (.slice uA nA cA) (.slice uB nB cB) xA xB k W (inA.below hb (Nat.le_refl _)) (inB.below hb (Nat.le_refl _)) hk)
  have heq := Lib.hid (fun v zs W (hb : Below w.heap.size w W) (hz : Ints W v zs) => l01Same_any v (.slice u n cp) zs xs W hz (hin.below hb (Nat.le_refl _)))
  have r1 := Lib.hid r1
  have r2 := Lib.hid r2
  have r3 := Lib.hid r3
  have e1 := nat_ne_no i
  clear hres hc hcell hA hB hA2 hB2 ccA ccB ha hS hs hS2 hcl hin inA inB hT hTl
  generalize resL xA xB k = RL at *
  generalize resOk xA xB k = RO at *
  go_enter Try.func29, Try.ntmps29
  go_wp2_with fail
  refine hq.out.mono ?_
  rintro e w2 ⟨rfl, hb⟩
  have d0 := keep_cell hb (show (w.alloc (.cells #[.slice u n cp, .int .i64 (i : Int), .int .i64 (j : Int), .int .i64 (k : Int)] 47)).cell? ⟨w.heap.size, 0, none⟩ = some (.slice u n cp) by simp)
  have d1 := keep_cell hb (show (w.alloc (.cells #[.slice u n cp, .int .i64 (i : Int), .int .i64 (j : Int), .int .i64 (k : Int)] 47)).cell? ⟨w.heap.size, 1, none⟩ = some (.int .i64 (i : Int)) by simp)
  have d2 := keep_cell hb (show (w.alloc (.cells #[.slice u n cp, .int .i64 (i : Int), .int .i64 (j : Int), .int .i64 (k : Int)] 47)).cell? ⟨w.heap.size, 2, none⟩ = some (.int .i64 (j : Int)) by simp)
  have d3 := keep_cell hb (show (w.alloc (.cells #[.slice u n cp, .int .i64 (i : Int), .int .i64 (j : Int), .int .i64 (k : Int)] 47)).cell? ⟨w.heap.size, 3, none⟩ = some (.int .i64 (k : Int)) by simp)
  have hB2 := keep_step hb B1
  have dA := keep_cell hB2 dA
  have dB := keep_cell hB2 dB
  clear hb B1 c0 c1 c2 c3
  go_wp2_with fail
  refine (l01In_any _ _ _ _).mono ?_
  rintro e w' ⟨rfl, rfl⟩
  rw [r1.out]
  go_wp2_with fail
  refine (l01In_any _ _ _ _).mono ?_
  rintro e w' ⟨rfl, rfl⟩
  rw [r2.out]
  go_wp2_with fail
  refine (l01In_any _ _ _ _).mono ?_
  rintro e w' ⟨rfl, rfl⟩
  rw [r3.out]
  go_wp2_with fail
  clear r1 r2 r3
  (first | (go_region_held3 (fun W => Below w.heap.size w W ∧ W.cell? ⟨w.heap.size, 0, none⟩ = some (.slice u n cp) ∧ W.cell? ⟨w.heap.size, 1, none⟩ = some (.int .i64 (i : Int)) ∧ W.cell? ⟨w.heap.size, 2, none⟩ = some (.int .i64 (j : Int)) ∧ W.cell? ⟨w.heap.size, 3, none⟩ = some (.int .i64 (k : Int)) ∧ W.cell? ⟨b, o + i * 4, none⟩ = some (.slice uA nA cA) ∧ W.cell? ⟨b, o + j * 4, none⟩ = some (.slice uB nB cB)) (first | (refine ⟨?_, ?_, ?_, ?_, ?_, ?_, ?_⟩ <;> (first | assumption | (exact Below.drew (by assumption)))) | (obtain ⟨hs1, hs2, hs3, hs4, hs5, hs6, hs7⟩ := ‹Below _ _ _ ∧ _ ∧ _ ∧ _ ∧ _ ∧ _ ∧ _›; exact ⟨keep_step (by assumption) hs1, keep_cell (by assumption) hs2, keep_cell (by assumption) hs3, keep_cell (by assumption) hs4, keep_cell (by assumption) hs5, keep_cell (by assumption) hs6, keep_cell (by assumption) hs7⟩)) (first | (go_at_call 38; refine (hr.out _ (And.left ‹Below w.heap.size w _ ∧ _ ∧ _ ∧ _ ∧ _ ∧ _ ∧ _›)).mono ?_; rintro e w' ⟨v2, rfl, hown, hb'⟩))) | fail)
  all_goals
    obtain ⟨hs1, hs2, _⟩ := ‹Below w.heap.size w _ ∧ _ ∧ _ ∧ _ ∧ _ ∧ _ ∧ _›
    cases RO
    · go_wp2_with fail
      go_ret
      exact ⟨rfl, hs1⟩
    · have hq := Lib.hid (heq.out v2 RL _ hs1 (ints_of_own (hown.out rfl)))
      clear hown hr d0 d1 d2 d3 dA dB
      go_wp2_with fail
      refine hq.out.mono ?_
      rintro e w2 ⟨rfl, b2⟩
      go_wp2_with fail
      go_ret
      exact ⟨rfl, keep_step b2 hs1⟩

theorem l04Fine_any (vI vS : Value) (Is : List (List Int)) (S : List Stp) (m : Nat) (s : Stp) (w : World) (hI : Fi w vI Is) (hS : Steps w vS S) (hs : S[m]? = some s) (hall : ∀ I ∈ Is, clauseB I = true) (hf : fineTo Is S m) :
    Calls Try.prog 29 #[vI, vS, .int .i64 (m : Int)] w fun e w' => e = .returned (.bool (fineB Is (S.take m) s)) ∧ Below w.heap.size w w' := by
  obtain ⟨xs, x, y, z⟩ := s
  have hmm : m < S.length := (List.getElem?_eq_some_iff.1 hs).1
  have hTl : (S.take m).length = m := by rw [List.length_take]; omega
  cases hcl : clauseB xs
  · have : fineB Is (S.take m) (xs, x, y, z) = false := by
      cases hb : fineB Is (S.take m) (xs, x, y, z)
      · rfl
      · have := fine_clause hall hb
        rw [hcl] at this
        cases this
    rw [this]
    exact fine_not vI vS S m _ w hS hs hcl
  by_cases h : x = -1 ∧ y = -1 ∧ z = -1
  · obtain ⟨rfl, rfl, rfl⟩ := h
    exact fine_start vI vS Is S _ m xs w hI hS hs hcl
  · cases ho : (inR x 0 (((S.take m).length : Int) - 1) && inR y 0 (((S.take m).length : Int) - 1) && inR z 0 5)
    · exact fine_out vI vS Is S _ m xs x y z w hS hs hcl hTl h ho
    · simp only [Bool.and_eq_true, inR_iff] at ho
      obtain ⟨i, rfl⟩ : ∃ i : Nat, x = (i : Int) := ⟨x.toNat, by omega⟩
      obtain ⟨j, rfl⟩ : ∃ j : Nat, y = (j : Int) := ⟨y.toNat, by omega⟩
      obtain ⟨k, rfl⟩ : ∃ k : Nat, z = (k : Int) := ⟨z.toNat, by omega⟩
      refine fine_in vI vS Is S _ m xs i j k w hS hs hcl rfl (fun i t ht => ?_) (by omega) (by omega) (by omega)
      rw [List.getElem?_take] at ht
      split at ht
      · exact fineTo_clause hall hf (by assumption) ht
      · cases ht
set_option maxHeartbeats 4000000 in
theorem specFirstBad_any (vI vS : Value) (Is : List (List Int)) (S : List Stp) (w : World) (hI : Fi w vI Is) (hS : Steps w vS S) (hl : S.length ≤ 1048576) :
    Calls Try.prog 15 #[vI, vS] w fun e w' => ∃ x : Int, e = .returned (.tuple #[.int .i64 x, .int .i64 (fbCode Is)]) ∧ Hid (fbX Is S x) ∧ Below w.heap.size w w' := by
  have hcl := Lib.hid (l04All_any vI Is w hI)
  cases hall : Is.all clauseB
  · have hcode : fbCode Is = 1 := by unfold fbCode; rw [hall]; rfl
    have hx0 := Lib.hid (show fbX Is S 0 by unfold fbX; rw [hall]; rfl)
    rw [hcode]
    rw [hall] at hcl
    clear hI hS hcode hall
    go_enter Try.func15, Try.ntmps15
    go_wp2_with fail
    refine hcl.out.mono ?_
    rintro e w1 ⟨rfl, b1⟩
    go_wp2_with fail
    go_ret2
    exact ⟨_, rfl, hx0, b1⟩
  · have hcode : fbCode Is = 0 := by unfold fbCode; rw [hall]; rfl
    have hX := Lib.hid (fun x (h : isFirst Is S x) => show fbX Is S x by unfold fbX; rw [hall]; exact h)
    have hmem := all_mem hall
    rw [hcode]
    rw [hall] at hcl
    clear hcode hall
    have hg := Lib.hid (fun (k : Nat) (s : Stp) (hs : S[k]? = some s) (hf : fineTo Is S k) W (hb : Below w.heap.size w W) => l04Fine_any vI vS Is S k s W (hI.below hb (Nat.le_refl _)) (hS.below hb (Nat.le_refl _)) hs hmem hf)
    obtain ⟨hm, a, c, b, o, rfl, hcc, _⟩ := hS.opened
    unfold maxLen at hm
    clear hI hS hmem
    go_enter Try.func15, Try.ntmps15
    go_wp2_with fail
    refine hcl.out.mono ?_
    rintro e w1 ⟨rfl, b1⟩
    go_wp2_with fail
    go_loopw [6] (fun i wr => ∃ k : Nat, k ≤ S.length ∧ i = .int .i64 k ∧ Hid (fineTo Is S k) ∧ Below w.heap.size w wr) (fun i _ => S.length - (intOf i).toNat)
    case atStart => exact ⟨0, Nat.zero_le _, rfl, fineTo_zero Is S, b1⟩
    case round =>
      obtain ⟨k, hk, rfl, hf, hb⟩ := hrel
      by_cases hlt : k < S.length
      · have hSk := Lib.hid (List.getElem?_eq_getElem hlt)
        have hgk := Lib.hid (hg.out k _ hSk.out hf.out _ hb)
        have hfs := Lib.hid (fun (h : fineB Is (S.take k) (S[k]'hlt) = true) => fineTo_succ hf.out hSk.out h)
        have hfx := Lib.hid (fun (h : fineB Is (S.take k) (S[k]'hlt) = false) => hX.out (k : Int) (.inr ⟨k, _, rfl, hSk.out, hf.out, h⟩))
        clear hSk
        generalize fineB Is (S.take k) (S[k]'hlt) = FB at *
        go_wp2_with fail
        refine hgk.out.mono ?_
        rintro e w2 ⟨rfl, b2⟩
        have hs1 := keep_step b2 hb
        cases FB
        · have hx := Lib.hid (hfx.out rfl)
          go_wp2_with fail
          go_ret2
          exact ⟨_, rfl, hx, hs1⟩
        · have hfn := Lib.hid (hfs.out rfl)
          go_wp2_with fail
          go_roundw
          case rel => exact ⟨k + 1, by omega, by go_num, hfn, hs1⟩
          case measure => simp [intOf]; omega
      · obtain rfl : k = S.length := by omega
        have hx := Lib.hid (hX.out (-1) (.inl ⟨rfl, hf.out⟩))
        go_wp2_with fail
        go_ret2
        exact ⟨_, rfl, hx, hb⟩
end Go.Proofs.Ytggelkhfkhbgmaa
