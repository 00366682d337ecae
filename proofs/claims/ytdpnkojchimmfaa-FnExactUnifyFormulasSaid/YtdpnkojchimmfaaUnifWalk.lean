/- UnifyFormulas: the reference's whole walk. -/
import Derived.Test.YtdpnkojchimmfaaUnifSpec
namespace Go.Proofs.Ytdpnkojchimmfaa
open Go.RowKit Go.Deep

set_option maxHeartbeats 1000000 in
theorem specUnifyFormulas_any (v : Value) (a : List Nd) (u : Value) (b : List Nd) (w : World) (h : Nodes w v a) (hu : Nodes w u b) :
    Calls Try.prog 7 #[v, u] w fun e w' => ∃ v', e = .returned (.tuple #[v', .int .i64 (uniCode a b)]) ∧ Fs w' v' (uniR a b) ∧ Below w.heap.size w w' := by
  have hia := Lib.hid (l02Is_any v a w h)
  have hib := Lib.hid (l02Is_any u b w hu)
  have hM := Lib.hid (fun hf hg => l03Unify_any v a u b w h hu hf hg)
  clear h hu
  cases hA : formB a
  · obtain ⟨h3, h2⟩ := uni_no (show form2 a b = false by unfold form2; rw [hA]; rfl)
    have h2 := Lib.hid h2
    have h3 := Lib.hid h3
    have hf := Lib.hid hA
    clear hA
    go_enter Try.func7, Try.ntmps7
    go_wp2_with fail
    refine hia.out.mono ?_
    rintro e w1 ⟨rfl, rfl⟩
    rw [hf.out]
    go_wp2_with fail
    go_ret2
    exact ⟨_, by rw [h2.out]; rfl, by rw [h3.out]; exact (OwnSS.nil _ 0).fs, Below.refl _ _⟩
  · cases hB : formB b
    · obtain ⟨h3, h2⟩ := uni_no (show form2 a b = false by unfold form2; rw [hA, hB]; rfl)
      have h2 := Lib.hid h2
      have h3 := Lib.hid h3
      have hf := Lib.hid hA
      have hg := Lib.hid hB
      clear hA hB
      go_enter Try.func7, Try.ntmps7
      go_wp2_with fail
      refine hia.out.mono ?_
      rintro e w1 ⟨rfl, rfl⟩
      rw [hf.out]
      go_wp2_with fail
      refine hib.out.mono ?_
      rintro e w1 ⟨rfl, rfl⟩
      rw [hg.out]
      go_wp2_with fail
      go_ret2
      exact ⟨_, by rw [h2.out]; rfl, by rw [h3.out]; exact (OwnSS.nil _ 0).fs, Below.refl _ _⟩
    · have hM := Lib.hid (hM.out hA hB)
      have hf := Lib.hid hA
      have hg := Lib.hid hB
      clear hA hB
      generalize uniCode a b = cd at *
      generalize uniR a b = rs at *
      go_enter Try.func7, Try.ntmps7
      go_wp2_with fail
      refine hia.out.mono ?_
      rintro e w1 ⟨rfl, rfl⟩
      rw [hf.out]
      go_wp2_with fail
      refine hib.out.mono ?_
      rintro e w1 ⟨rfl, rfl⟩
      rw [hg.out]
      go_wp2_with fail
      refine hM.out.mono ?_
      rintro e w2 ⟨v', rfl, ho, b2⟩
      go_wp2_with fail
      go_ret2
      exact ⟨_, rfl, ho.out, b2⟩
end Go.Proofs.Ytdpnkojchimmfaa
