/- MatchFormula: the program's whole walk; the reference's walk. -/
import Derived.Test.YtdpnkojchimmfaaMatchTwo
import Derived.Test.YtdpnkojchimmfaaReplTwo
import Derived.Deep.RegionWith
import Derived.Deep.Cut
import Derived.Deep.DeepCutAuto
namespace Go.Proofs.Ytdpnkojchimmfaa
open Go.RowKit Go.Deep

theorem mt_cases (a b : List Nd) : ((formB a && formB b) = false ∧ mtCode a b = 1 ∧ mtR a b = []) ∨ ((formB a && formB b) = true ∧ mtOpt a b = none ∧ mtCode a b = 4 ∧ mtR a b = []) ∨ ∃ M, (formB a && formB b) = true ∧ mtOpt a b = some M ∧ mtCode a b = 0 ∧ mtR a b = finM M := by
  unfold mtCode mtR form2
  cases (formB a && formB b) <;> cases mtOpt a b <;> simp

set_option maxHeartbeats 1000000 in
theorem implMatchFormula_any (v : Value) (a : List Nd) (u : Value) (b : List Nd) (w : World) (h : Nodes w v a) (hu : Nodes w u b) :
    Calls Try.prog 20 #[v, u] w fun e w' => ∃ v', e = .returned (.tuple #[v', .int .i64 (mtCode a b)]) ∧ OwnSS w.heap.size w'.heap.size w' v' (mtR a b) ∧ Below w.heap.size w w' := by
  obtain ⟨aa, ca, rfl⟩ := h.shape
  obtain ⟨ab, cb, rfl⟩ := hu.shape
  have hA := Lib.hid (areFormulas_two w aa ab _ _ ca cb a b 27 h hu)
  have hba := Lib.hid ((Below.refl w.heap.size w).alloc (Nat.le_refl _) (.cells #[.slice aa a.length ca, .slice ab b.length cb] 27))
  have hM := Lib.hid (fun hf hg w1 (hb : Below w.heap.size w w1) => match_any _ _ a b w1 (h.below hb (Nat.le_refl _)) (hu.below hb (Nat.le_refl _)) hf hg)
  clear h hu
  rcases mt_cases a b with ⟨h1, h2, h3⟩ | ⟨h1, h2, h3, h4⟩ | ⟨M, h1, h2, h3, h4⟩
  · have h1 := Lib.hid h1
    have h2 := Lib.hid h2
    have h3 := Lib.hid h3
    generalize a.length = la at *
    generalize b.length = lb at *
    go_enter Try.func20, Try.ntmps20
    go_wp2_with fail
    refine hA.out.mono ?_
    rintro e w1 ⟨rfl, b1⟩
    rw [h1.out]
    have B1 := b1
    go_wp2_with fail
    go_ret2
    exact ⟨_, by rw [h2.out]; rfl, by rw [h3.out]; exact OwnSS.nil _ _, B1⟩
  · have h1' := (Bool.and_eq_true _ _).mp h1
    have hM := Lib.hid (hM.out h1'.1 h1'.2)
    have h1 := Lib.hid h1
    have h2 := Lib.hid h2
    have h3 := Lib.hid h3
    have h4 := Lib.hid h4
    clear h1'
    generalize a.length = la at *
    generalize b.length = lb at *
    go_enter Try.func20, Try.ntmps20
    go_wp2_with fail
    refine hA.out.mono ?_
    rintro e w1 ⟨rfl, b1⟩
    rw [h1.out]
    have B1 := b1
    go_wp2_with fail
    refine (hM.out _ B1).mono ?_
    rintro e w2 ⟨⟨M, v', h5, _⟩ | ⟨_, rfl⟩, b2⟩
    · rw [h2.out] at h5; cases h5
    · have B2 := keep_step b2 B1
      go_wp2_with fail
      go_ret2
      exact ⟨_, by rw [h3.out]; rfl, by rw [h4.out]; exact OwnSS.nil _ _, B2⟩
  · have h1' := (Bool.and_eq_true _ _).mp h1
    have hM := Lib.hid (hM.out h1'.1 h1'.2)
    have h1 := Lib.hid h1
    have h2 := Lib.hid h2
    have h3 := Lib.hid h3
    have h4 := Lib.hid h4
    clear h1'
    generalize a.length = la at *
    generalize b.length = lb at *
    go_enter Try.func20, Try.ntmps20
    go_wp2_with fail
    refine hA.out.mono ?_
    rintro e w1 ⟨rfl, b1⟩
    rw [h1.out]
    have B1 := b1
    go_wp2_with fail
    refine (hM.out _ B1).mono ?_
    rintro e w2 ⟨⟨M', v', h5, rfl, ho⟩ | ⟨h5, _⟩, b2⟩
    · have B2 := keep_step b2 B1
      have ho := Lib.hid (ho.mono B1.size)
      have h5 := Lib.hid h5
      go_wp2_with fail
      go_ret2
      refine ⟨_, by rw [h3.out]; rfl, ?_, B2⟩
      have e : M' = M := by
        have h6 := h5.out
        rw [h2.out] at h6
        exact (Option.some.inj h6).symm
      rw [h4.out, ← e]
      exact ho.out
    · rw [h2.out] at h5; cases h5
end Go.Proofs.Ytdpnkojchimmfaa
