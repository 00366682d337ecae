/- Walks of SubstituteFormula, of both. -/
import Derived.Test.YtdpnkojchimmfaaQBIsSub

namespace Go.Proofs.Ytdpnkojchimmfaa
open Go.RowKit

def sbCode (ns : List Nd) (Is : List (List Nd)) : Int := if (formB ns && subsB Is) then (if (subL Is ns).length ≤ 40 then 0 else 3) else 1
def sbR (ns : List Nd) (Is : List (List Nd)) : List Nd := if sbCode ns Is = 0 then subL Is ns else []
theorem sb_cases (ns : List Nd) (Is : List (List Nd)) : ((formB ns && subsB Is) = false ∧ sbCode ns Is = 1 ∧ sbR ns Is = []) ∨ ((formB ns && subsB Is) = true ∧ 40 < (subL Is ns).length ∧ sbCode ns Is = 3 ∧ sbR ns Is = []) ∨ ((formB ns && subsB Is) = true ∧ (subL Is ns).length ≤ 40 ∧ sbCode ns Is = 0 ∧ sbR ns Is = subL Is ns) := by
  unfold sbR sbCode
  cases (formB ns && subsB Is) <;> by_cases h2 : (subL Is ns).length ≤ 40 <;> simp [h2] <;> omega
theorem sbR_length (ns : List Nd) (Is : List (List Nd)) : (sbR ns Is).length ≤ 64 := by
  rcases sb_cases ns Is with ⟨_, _, h⟩ | ⟨_, _, _, h⟩ | ⟨_, h1, _, h⟩ <;> rw [h] <;> first | (simp; done) | omega
theorem subs_facts {Is : List (List Nd)} (h : subsB Is = true) : Is.length = 6 ∧ ∀ I ∈ Is, 0 < I.length ∧ I.length ≤ 1000 := by
  unfold subsB at h
  simp only [Bool.and_eq_true, decide_eq_true_eq] at h
  refine ⟨h.1, fun I hI => ?_⟩
  have := form_len3 (List.all_eq_true.1 h.2 I hI)
  omega
theorem subL_big {ns : List Nd} {Is : List (List Nd)} (hf : formB ns = true) (h : subsB Is = true) : (subL Is ns).length ≤ 100000 := by
  have h1 := subL_len Is (fun I hI => ((subs_facts h).2 I hI).2) ns
  have := Nat.mul_le_mul_right 1000 (form_len3 hf).2
  omega

set_option maxHeartbeats 1000000 in
theorem implSubstituteFormula_any (v : Value) (ns : List Nd) (vi : Value) (Is : List (List Nd)) (w : World) (h : Nodes w v ns) (hI : Fs w vi Is) :
    Calls Try.prog 17 #[v, vi] w fun e w' => ∃ v', e = .returned (.tuple #[v', .int .i64 (sbCode ns Is)]) ∧ w'.ownsRow w.heap.size 41 2 v' (sbR ns Is).length (cellsN (sbR ns Is)) ∧ Below w.heap.size w w' := by
  have hv := Lib.hid h
  have hI := Lib.hid hI
  clear h
  have hia := Lib.hid (isFormula_any v ns w hv.out)
  have hib := Lib.hid (fun w1 (hb : Below w.heap.size w w1) => isSubstitution_any vi Is w1 (hI.out.below hb (Nat.le_refl _)))
  rcases sb_cases ns Is with ⟨h1, h2, h3⟩ | ⟨h1, hl, h3, h4⟩ | ⟨h1, hl, h3, h4⟩
  · have h2 := Lib.hid h2
    have h3 := Lib.hid h3
    cases hB : formB ns
    · have hf := Lib.hid hB
      clear h1
      go_enter Try.func17, Try.ntmps17
      go_wp2_with fail
      refine hia.out.mono ?_
      rintro e w1 ⟨rfl, b1⟩
      rw [hf.out]
      go_wp2_with fail
      go_ret2
      exact ⟨_, by rw [h2.out]; rfl, by rw [h3.out]; exact World.ownsRow_nil _ _ _ _, b1⟩
    · have hf := Lib.hid hB
      have hg := Lib.hid (show subsB Is = false by rw [hB] at h1; simpa using h1)
      clear h1
      go_enter Try.func17, Try.ntmps17
      go_wp2_with fail
      refine hia.out.mono ?_
      rintro e w1 ⟨rfl, b1⟩
      rw [hf.out]
      go_wp2_with fail
      refine (hib.out _ b1).mono ?_
      rintro e w2 ⟨rfl, b2⟩
      have B2 := keep_step b2 b1
      rw [hg.out]
      go_wp2_with fail
      go_ret2
      exact ⟨_, by rw [h2.out]; rfl, by rw [h3.out]; exact World.ownsRow_nil _ _ _ _, B2⟩
  all_goals
    have h1' := (Bool.and_eq_true _ _).mp h1
    obtain ⟨hp0, hp1⟩ := form_len3 h1'.1
    obtain ⟨h6, hb0⟩ := subs_facts h1'.2
    have hal := form_all3 h1'.1
    have hj := Lib.hid (fun w1 (hb : Below w.heap.size w w1) => substitute_any v vi ns Is w1 (hv.out.below hb (Nat.le_refl _)) hp1 hp0 hal (hI.out.below hb (Nat.le_refl _)) h6 hb0)
    have hbig := subL_big h1'.1 h1'.2
    have hf := Lib.hid h1'.1
    have hg := Lib.hid h1'.2
    have h3 := Lib.hid h3
    have h4 := Lib.hid h4
    clear h1 h1' h6 hb0 hal hp0 hp1
    generalize subL Is ns = R at *
    go_enter Try.func17, Try.ntmps17
    go_wp2_with fail
    refine hia.out.mono ?_
    rintro e w1 ⟨rfl, b1⟩
    rw [hf.out]
    go_wp2_with fail
    refine (hib.out _ b1).mono ?_
    rintro e w2 ⟨rfl, b2⟩
    have B2 := keep_step b2 b1
    rw [hg.out]
    go_wp2_with fail
    refine (hj.out _ B2).mono ?_
    rintro e w3 ⟨v', rfl, ho, hb3⟩
    have B3 := keep_step hb3 B2
    obtain ⟨a1, c1, hsh⟩ := (nodes_of_own ho).shape
    subst hsh
    have ho := Lib.hid (own_mono ho B2.size)
    generalize hNR : R.length = N at *
    have hNR := Lib.hid hNR
    go_wp2_with fail
    first
      | refine (limited_big _ _ _ _ hl (by omega)).mono ?_
      | refine (limited_ok _ _ _ _ hl).mono ?_
    rintro e w4 ⟨rfl, rfl⟩
    go_wp2_with fail
    go_ret2
    first
      | exact ⟨_, by rw [h3.out]; rfl, by rw [h4.out]; exact World.ownsRow_nil _ _ _ _, B3⟩
      | exact ⟨_, by rw [h3.out]; rfl, by rw [h4.out, hNR.out]; exact ho.out, B3⟩

set_option maxHeartbeats 1000000 in
theorem specSubstituteFormula_any (v : Value) (ns : List Nd) (vi : Value) (Is : List (List Nd)) (w : World) (h : Nodes w v ns) (hI : Fs w vi Is) :
    Calls Try.prog 18 #[v, vi] w fun e w' => ∃ v', e = .returned (.tuple #[v', .int .i64 (sbCode ns Is)]) ∧ w'.ownsRow w.heap.size 41 2 v' (sbR ns Is).length (cellsN (sbR ns Is)) ∧ Below w.heap.size w w' := by
  have hv := Lib.hid h
  have hI := Lib.hid hI
  clear h
  have hia := Lib.hid (l02Is_any v ns w hv.out)
  have hib := Lib.hid (fun w1 (hb : Below w.heap.size w w1) => l03Is_any vi Is w1 (hI.out.below hb (Nat.le_refl _)))
  rcases sb_cases ns Is with ⟨h1, h2, h3⟩ | ⟨h1, hl, h3, h4⟩ | ⟨h1, hl, h3, h4⟩
  · have h2 := Lib.hid h2
    have h3 := Lib.hid h3
    cases hB : formB ns
    · have hf := Lib.hid hB
      clear h1
      go_enter Try.func18, Try.ntmps18
      go_wp2_with fail
      refine hia.out.mono ?_
      rintro e w1 ⟨rfl, rfl⟩
      have b1 := Below.refl w.heap.size w
      rw [hf.out]
      go_wp2_with fail
      go_ret2
      exact ⟨_, by rw [h2.out]; rfl, by rw [h3.out]; exact World.ownsRow_nil _ _ _ _, b1⟩
    · have hf := Lib.hid hB
      have hg := Lib.hid (show subsB Is = false by rw [hB] at h1; simpa using h1)
      clear h1
      go_enter Try.func18, Try.ntmps18
      go_wp2_with fail
      refine hia.out.mono ?_
      rintro e w1 ⟨rfl, rfl⟩
      have b1 := Below.refl w.heap.size w
      rw [hf.out]
      go_wp2_with fail
      refine (hib.out _ b1).mono ?_
      rintro e w2 ⟨rfl, rfl⟩
      have B2 := b1
      rw [hg.out]
      go_wp2_with fail
      go_ret2
      exact ⟨_, by rw [h2.out]; rfl, by rw [h3.out]; exact World.ownsRow_nil _ _ _ _, B2⟩
  all_goals
    have h1' := (Bool.and_eq_true _ _).mp h1
    obtain ⟨hp0, hp1⟩ := form_len3 h1'.1
    obtain ⟨h6, hb0⟩ := subs_facts h1'.2
    have hal := form_all3 h1'.1
    have hj := Lib.hid (fun w1 (hb : Below w.heap.size w w1) => l03Sub_any v vi ns Is w1 (hv.out.below hb (Nat.le_refl _)) hp1 hp0 hal (hI.out.below hb (Nat.le_refl _)) h6 hb0)
    have hbig := subL_big h1'.1 h1'.2
    have hf := Lib.hid h1'.1
    have hg := Lib.hid h1'.2
    have h3 := Lib.hid h3
    have h4 := Lib.hid h4
    clear h1 h1' h6 hb0 hal hp0 hp1
    generalize subL Is ns = R at *
    go_enter Try.func18, Try.ntmps18
    go_wp2_with fail
    refine hia.out.mono ?_
    rintro e w1 ⟨rfl, rfl⟩
    have b1 := Below.refl w.heap.size w
    rw [hf.out]
    go_wp2_with fail
    refine (hib.out _ b1).mono ?_
    rintro e w2 ⟨rfl, rfl⟩
    have B2 := b1
    rw [hg.out]
    go_wp2_with fail
    refine (hj.out _ B2).mono ?_
    rintro e w3 ⟨v', rfl, ho, hb3⟩
    have B3 := keep_step hb3 B2
    obtain ⟨a1, c1, hsh⟩ := (nodes_of_own ho).shape
    subst hsh
    have ho := Lib.hid (own_mono ho B2.size)
    generalize hNR : R.length = N at *
    have hNR := Lib.hid hNR
    go_wp2_with fail
    first
      | refine (l02Made_big _ _ _ _ hl (by omega)).mono ?_
      | refine (l02Made_ok _ _ _ _ hl).mono ?_
    rintro e w4 ⟨rfl, rfl⟩
    go_wp2_with fail
    go_ret2
    first
      | exact ⟨_, by rw [h3.out]; rfl, by rw [h4.out]; exact World.ownsRow_nil _ _ _ _, B3⟩
      | exact ⟨_, by rw [h3.out]; rfl, by rw [h4.out, hNR.out]; exact ho.out, B3⟩

end Go.Proofs.Ytdpnkojchimmfaa
