/- MatchFormula: the reference's whole walk. -/
import Derived.Test.YtadinbjhpbomkaaMatchSpec
namespace Go.Proofs.Ytadinbjhpbomkaa
open Go.RowKit Go.Deep

set_option maxHeartbeats 1000000 in
theorem specMatchFormula_any (v : Value) (a : List Nd) (u : Value) (b : List Nd) (w : World) (h : Nodes w v a) (hu : Nodes w u b) :
    Calls Try.prog 30 #[v, u] w fun e w' => ∃ v', e = .returned (.tuple #[v', .int .i64 (mtCode a b)]) ∧ Fs w' v' (mtR a b) ∧ Below w.heap.size w w' := by
  have hia := Lib.hid (l02Is_any v a w h)
  have hib := Lib.hid (l02Is_any u b w hu)
  have hM := Lib.hid (fun hf hg => l03Match_any _ _ a b w h hu hf hg)
  clear h hu
  rcases mt_cases a b with ⟨h1, h2, h3⟩ | ⟨h1, h2, h3, h4⟩ | ⟨M, h1, h2, h3, h4⟩
  · have h2 := Lib.hid h2
    have h3 := Lib.hid h3
    cases hA : formB a
    · have hf := Lib.hid hA
      clear h1 hA
      go_enter Try.func30, Try.ntmps30
      go_wp2_with fail
      refine hia.out.mono ?_
      rintro e w1 ⟨rfl, rfl⟩
      rw [hf.out]
      go_wp2_with fail
      go_ret2
      exact ⟨_, by rw [h2.out]; rfl, by rw [h3.out]; exact (OwnSS.nil _ 0).fs, Below.refl _ _⟩
    · have hf := Lib.hid hA
      have hg := Lib.hid (show formB b = false by rw [hA] at h1; simpa using h1)
      clear h1 hA
      go_enter Try.func30, Try.ntmps30
      go_wp2_with fail
      refine hia.out.mono ?_
      rintro e w1 ⟨rfl, rfl⟩
      rw [hf.out]
      go_wp2_with fail
      refine hib.out.mono ?_
      rintro e w1 ⟨rfl, rfl⟩
      rw [hg.out]
      go_wp2_with fail
      go_ret2
      exact ⟨_, by rw [h2.out]; rfl, by rw [h3.out]; exact (OwnSS.nil _ 0).fs, Below.refl _ _⟩
  all_goals
    have h1' := (Bool.and_eq_true _ _).mp h1
    have hM := Lib.hid (hM.out h1'.1 h1'.2)
    have hf := Lib.hid h1'.1
    have hg := Lib.hid h1'.2
    have h2 := Lib.hid h2
    have h3 := Lib.hid h3
    have h4 := Lib.hid h4
    clear h1 h1'
    go_enter Try.func30, Try.ntmps30
    go_wp2_with fail
    refine hia.out.mono ?_
    rintro e w1 ⟨rfl, rfl⟩
    rw [hf.out]
    go_wp2_with fail
    refine hib.out.mono ?_
    rintro e w1 ⟨rfl, rfl⟩
    rw [hg.out]
    go_wp2_with fail
    refine hM.out.mono ?_
    rintro e w2 ⟨⟨M', v', h5, rfl, ho⟩ | ⟨h5, rfl⟩, b2⟩
    · first
      | (rw [h2.out] at h5; cases h5; done)
      | (have ho := Lib.hid ho
         have h5 := Lib.hid h5
         go_wp2_with fail
         go_ret2
         refine ⟨_, by rw [h3.out]; rfl, ?_, b2⟩
         have e : M' = M := by
           have h6 := h5.out
           rw [h2.out] at h6
           exact (Option.some.inj h6).symm
         rw [h4.out, ← e]
         exact ho.out)
    · first
      | (rw [h2.out] at h5; cases h5; done)
      | (clear h5
         go_wp2_with fail
         go_ret2
         exact ⟨_, by rw [h3.out]; rfl, by rw [h4.out]; exact (OwnSS.nil _ 0).fs, b2⟩)
end Go.Proofs.Ytadinbjhpbomkaa
