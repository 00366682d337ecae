/- impl.isGoodResolvent. -/
import Derived.Test.YtggelkhfkhbgmaaFbEq
import Derived.Test.YtggelkhfkhbgmaaStpLaw
import Derived.Test.YtggelkhfkhbgmaaResolve
namespace Go.Proofs.Ytggelkhfkhbgmaa
open Go.RowKit
set_option linter.unusedVariables false
set_option linter.unusedSimpArgs false

theorem any_in (ss : List SlI) (xs : List Int) : (ss.any fun s => decide (s.2 = xs)) = decide (xs ∈ ss.map (·.2)) := by
  rw [Bool.eq_iff_iff, List.any_eq_true, decide_eq_true_eq, List.mem_map]
  constructor
  · rintro ⟨s, hs, h⟩; exact ⟨s, hs, by simpa using h⟩
  · rintro ⟨s, hs, h⟩; exact ⟨s, hs, by simpa using h⟩
theorem fineB_start (Is : List (List Int)) (S : List Stp) (xs : List Int) : fineB Is S (xs, -1, -1, -1) = decide (xs ∈ Is) := by unfold fineB; rw [if_pos ⟨rfl, rfl, rfl⟩]
theorem fineB_out {Is : List (List Int)} {S : List Stp} {xs : List Int} {x y z : Int} (h : ¬ (x = -1 ∧ y = -1 ∧ z = -1)) (ho : (inR x 0 ((S.length : Int) - 1) && inR y 0 ((S.length : Int) - 1) && inR z 0 5) = false) : fineB Is S (xs, x, y, z) = false := by
  unfold fineB; rw [if_neg h]; simp only [ho, Bool.false_and]
theorem fineB_in {Is : List (List Int)} {S : List Stp} {xs : List Int} {x y z : Int} (ho : (inR x 0 ((S.length : Int) - 1) && inR y 0 ((S.length : Int) - 1) && inR z 0 5) = true) : fineB Is S (xs, x, y, z) = resAt S x y z xs := by
  have h : ¬ (x = -1 ∧ y = -1 ∧ z = -1) := fun h => by
    rw [h.1] at ho
    have : inR (-1) 0 ((S.length : Int) - 1) = false := inR_lo (by omega)
    rw [this] at ho
    cases ho
  unfold fineB; rw [if_neg h]; simp only [ho, Bool.true_and]

theorem isVariableB_any (v : Int) (w : World) :
    Calls Try.prog 46 #[.int .i64 v] w fun e w' => e = .returned (.bool (inR v 0 5)) ∧ w = w' := by
  go_enter Try.func46, Try.ntmps46
  go_wp2_with (go_at_call 39; refine (inRange_any _ _ _ _).mono ?_; rintro e w' ⟨rfl, rfl⟩)
  go_ret
  exact ⟨rfl, rfl⟩

theorem isGood1_pred (ss : List SlI) (xs : List Int) (u : Option Addr) (cp g : Nat) (w : World) (h : ∀ s ∈ ss, Ints w (slVI s) s.2) (hx : Ints w (.slice u xs.length cp) xs) (hg : w.cell? ⟨g, 0, none⟩ = some (.slice u xs.length cp)) :
    Pred Try.prog 44 #[.pointer (some ⟨g, 0, none⟩)] slVI ss (fun s => decide (s.2 = xs)) w := by
  intro W s hs hb _
  have hcl := Lib.hid (equalI_any (slVI s) (.slice u xs.length cp) s.2 xs W ((h s hs).below hb (Nat.le_refl _)) (hx.below hb (Nat.le_refl _)))
  have hg := keep_cell hb hg
  show Calls Try.prog 44 #[slVI s, .pointer (some ⟨g, 0, none⟩)] W _
  generalize slVI s = v at *
  go_enter Try.func44, Try.ntmps44
  go_wp2_with fail
  refine hcl.out.mono ?_
  rintro e w' ⟨rfl, hb'⟩
  go_wp2_with fail
  go_ret
  exact ⟨rfl, hb'⟩

set_option maxHeartbeats 2000000 in
theorem isGood_start (vI vS : Value) (Is : List (List Int)) (S : List Stp) (xs : List Int) (u : Option Addr) (cp : Nat) (w : World) (hI : Fi w vI Is) (hx : Ints w (.slice u xs.length cp) xs) :
    Calls Try.prog 32 #[vI, vS, .agg #[.slice u xs.length cp, .int .i64 (-1), .int .i64 (-1), .int .i64 (-1)]] w fun e w' => e = .returned (.bool (fineB Is S (xs, -1, -1, -1))) ∧ Below w.heap.size w w' := by
  obtain ⟨ss, h1, h2, rfl⟩ := hI
  have hres := Lib.hid ((fineB_start (ss.map (·.2)) S xs).trans (any_in ss xs).symm)
  generalize fineB (ss.map (·.2)) S (xs, -1, -1, -1) = R at *
  obtain rfl := hres.out
  have heg := Lib.hid (enters_of Try.func44 (by kernel_rfl) rfl)
  have B1 : Below w.heap.size w (w.alloc (.cells #[.slice u xs.length cp, .int .i64 (-1), .int .i64 (-1), .int .i64 (-1)] 47)) := (Below.refl _ _).alloc (Nat.le_refl _) _
  have hp := Lib.hid (isGood1_pred ss xs u cp w.heap.size (w.alloc (.cells #[.slice u xs.length cp, .int .i64 (-1), .int .i64 (-1), .int .i64 (-1)] 47)) (fun s hs => (h2 s hs).below B1 (Nat.le_refl _)) (hx.below B1 (Nat.le_refl _)) (by simp))
  have h1 := Lib.hid (h1.below B1 (Nat.le_refl _))
  clear h2 hx
  go_enter Try.func32, Try.ntmps32
  go_wp2_with fail
  refine (containsFuncSI_any _ _ heg.out _ ss _ _ h1.out hp.out).mono ?_
  rintro e w' ⟨rfl, hb⟩
  go_wp2_with fail
  go_ret
  exact ⟨rfl, B1.trans (hb.mono B1.size)⟩

theorem out_cases {x y z m : Int} (h : ¬ (x = -1 ∧ y = -1 ∧ z = -1)) (ho : (inR x 0 m && inR y 0 m && inR z 0 5) = false) :
    (x ≠ -1 ∧ inR x 0 m = false) ∨ (x ≠ -1 ∧ inR x 0 m = true ∧ inR y 0 m = false) ∨ (x ≠ -1 ∧ inR x 0 m = true ∧ inR y 0 m = true ∧ inR z 0 5 = false) ∨ (x = -1 ∧ y ≠ -1 ∧ inR (-1) 0 m = false) ∨ (x = -1 ∧ y = -1 ∧ z ≠ -1 ∧ inR (-1) 0 m = false) := by
  by_cases hx : x = -1
  · subst hx
    have hi : inR (-1) 0 m = false := inR_lo (by omega)
    by_cases hy : y = -1
    · subst hy
      exact .inr (.inr (.inr (.inr ⟨rfl, rfl, fun hz => h ⟨rfl, rfl, hz⟩, hi⟩)))
    · exact .inr (.inr (.inr (.inl ⟨rfl, hy, hi⟩)))
  · cases h1 : inR x 0 m
    · exact .inl ⟨hx, rfl⟩
    · cases h2 : inR y 0 m
      · exact .inr (.inl ⟨hx, rfl, rfl⟩)
      · rw [h1, h2] at ho
        exact .inr (.inr (.inl ⟨hx, rfl, rfl, by simpa using ho⟩))
theorem ne_no {x : Int} (h : x ≠ -1) : (x == -1) = false := by simpa using h

set_option maxHeartbeats 4000000 in
theorem isGood_out (vI : Value) (a : Option Addr) (c : Nat) (Is : List (List Int)) (S : List Stp) (xs : List Int) (u : Option Addr) (cp : Nat) (x y z : Int) (w : World) (hl : S.length ≤ 4611686018427387904)
    (h : ¬ (x = -1 ∧ y = -1 ∧ z = -1)) (ho : (inR x 0 ((S.length : Int) - 1) && inR y 0 ((S.length : Int) - 1) && inR z 0 5) = false) :
    Calls Try.prog 32 #[vI, .slice a S.length c, .agg #[.slice u xs.length cp, .int .i64 x, .int .i64 y, .int .i64 z]] w fun e w' => e = .returned (.bool (fineB Is S (xs, x, y, z))) ∧ Below w.heap.size w w' := by
  have hres := fineB_out (Is := Is) (xs := xs) h ho
  rw [hres]
  clear hres
  have hcs := out_cases h ho
  have B1 : Below w.heap.size w (w.alloc (.cells #[.slice u xs.length cp, .int .i64 x, .int .i64 y, .int .i64 z] 47)) := (Below.refl _ _).alloc (Nat.le_refl _) _
  have B1 := Lib.hid B1
  clear h ho
  rcases hcs with ⟨h1, h2⟩ | ⟨h1, h2, h3⟩ | ⟨h1, h2, h3, h4⟩ | ⟨rfl, h1, h2⟩ | ⟨rfl, rfl, h1, h2⟩
  · have e1 := ne_no h1
    have h2 := Lib.hid h2
    clear h1
    go_enter Try.func32, Try.ntmps32
    go_wp2_with fail
    refine (inRange_any _ _ _ _).mono ?_
    rintro e w' ⟨rfl, rfl⟩
    rw [h2.out]
    go_wp2_with fail
    go_ret
    exact ⟨rfl, B1.out⟩
  · have e1 := ne_no h1
    have h2 := Lib.hid h2
    have h3 := Lib.hid h3
    clear h1
    go_enter Try.func32, Try.ntmps32
    go_wp2_with fail
    refine (inRange_any _ _ _ _).mono ?_
    rintro e w' ⟨rfl, rfl⟩
    rw [h2.out]
    go_wp2_with fail
    refine (inRange_any _ _ _ _).mono ?_
    rintro e w' ⟨rfl, rfl⟩
    rw [h3.out]
    go_wp2_with fail
    go_ret
    exact ⟨rfl, B1.out⟩
  · have e1 := ne_no h1
    have h2 := Lib.hid h2
    have h3 := Lib.hid h3
    have h4 := Lib.hid h4
    clear h1
    go_enter Try.func32, Try.ntmps32
    go_wp2_with fail
    refine (inRange_any _ _ _ _).mono ?_
    rintro e w' ⟨rfl, rfl⟩
    rw [h2.out]
    go_wp2_with fail
    refine (inRange_any _ _ _ _).mono ?_
    rintro e w' ⟨rfl, rfl⟩
    rw [h3.out]
    go_wp2_with fail
    refine (isVariableB_any _ _).mono ?_
    rintro e w' ⟨rfl, rfl⟩
    rw [h4.out]
    go_wp2_with fail
    go_ret
    exact ⟨rfl, B1.out⟩
  · have e1 := ne_no h1
    have h2 := Lib.hid h2
    clear h1
    go_enter Try.func32, Try.ntmps32
    go_wp2_with fail
    refine (inRange_any _ _ _ _).mono ?_
    rintro e w' ⟨rfl, rfl⟩
    rw [h2.out]
    go_wp2_with fail
    go_ret
    exact ⟨rfl, B1.out⟩
  · have e1 := ne_no h1
    have h2 := Lib.hid h2
    clear h1
    go_enter Try.func32, Try.ntmps32
    go_wp2_with fail
    refine (inRange_any _ _ _ _).mono ?_
    rintro e w' ⟨rfl, rfl⟩
    rw [h2.out]
    go_wp2_with fail
    go_ret
    exact ⟨rfl, B1.out⟩
end Go.Proofs.Ytggelkhfkhbgmaa
