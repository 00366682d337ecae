/- TranslateFormula, of both. -/
import Derived.Test.YtadinbjhpbomkaaTransTwo
namespace Go.Proofs.Ytadinbjhpbomkaa
open Go.RowKit Go.Deep

noncomputable def ttR (ns : List Nd) (x : Int) : List Pt := if h : formB ns = true then (if x = 0 ∨ x = 1 then trL (Classical.choose (form_tree h)) x else []) else []
def ttCode (ns : List Nd) (x : Int) : Int := if formB ns = true then (if x = 0 ∨ x = 1 then 0 else 2) else 1
theorem tt_cases (ns : List Nd) (x : Int) : (formB ns = false ∧ ttCode ns x = 1 ∧ ttR ns x = []) ∨ (formB ns = true ∧ ¬ (x = 0 ∨ x = 1) ∧ ttCode ns x = 2 ∧ ttR ns x = []) ∨
    ∃ t, formB ns = true ∧ (x = 0 ∨ x = 1) ∧ ttCode ns x = 0 ∧ ttR ns x = trL t x ∧ okT t ∧ ns = flat t ∧ ns.length ≤ 40 ∧ ns.all nodeB = true := by
  by_cases h : formB ns = true
  · by_cases hx : x = 0 ∨ x = 1
    · have hs := Classical.choose_spec (form_tree h)
      exact .inr (.inr ⟨_, h, hx, by unfold ttCode; rw [if_pos h, if_pos hx], by unfold ttR; rw [dif_pos h, if_pos hx], hs.1, hs.2.1, hs.2.2.1, List.all_eq_true.2 hs.2.2.2⟩)
    · exact .inr (.inl ⟨h, hx, by unfold ttCode; rw [if_pos h, if_neg hx], by unfold ttR; rw [dif_pos h, if_neg hx]⟩)
  · exact .inl ⟨by simpa using h, by unfold ttCode; rw [if_neg h], by unfold ttR; rw [dif_neg h]⟩
theorem ttR_length (ns : List Nd) (x : Int) : (ttR ns x).length ≤ 120 := by
  rcases tt_cases ns x with ⟨_, _, h⟩ | ⟨_, _, _, h⟩ | ⟨t, _, _, _, h, ht, e, hl, _⟩
  · rw [h]; simp
  · rw [h]; simp
  · rw [h]
    have := trL_len t x ht
    rw [e] at hl
    omega

theorem limitedPoints_ok (a : Option Addr) (n c : Nat) (w : World) (hn : n ≤ 120) :
    Calls Try.prog 79 #[.slice a n c] w fun e w' => e = .returned (.tuple #[.slice a n c, .int .i64 0]) ∧ w = w' := by
  go_enter Try.func79, Try.ntmps79
  go_wp2_with fail
  go_ret2
  exact ⟨rfl, rfl⟩
theorem l10Made_ok (a : Option Addr) (n c : Nat) (w : World) (hn : n ≤ 120) :
    Calls Try.prog 76 #[.slice a n c] w fun e w' => e = .returned (.tuple #[.slice a n c, .int .i64 0]) ∧ w = w' := by
  go_enter Try.func76, Try.ntmps76
  go_wp2_with fail
  go_ret2
  exact ⟨rfl, rfl⟩

theorem made_own {P : Program} {f : FuncId} {args : Array Value} {W : World} {L : List Pt} {n : Nat} (hL : L.length = n) (h : Calls P f args W fun e w' => ∃ v', e = .returned v' ∧ w'.ownsRow W.heap.size 86 3 v' L.length (cellsP L) ∧ Below W.heap.size W w') :
    Calls P f args W fun e w' => ∃ a c, e = .returned (.slice a n c) ∧ Hid (w'.ownsRow W.heap.size 86 3 (.slice a n c) n (cellsP L)) ∧ Below W.heap.size W w' := by
  refine h.mono ?_
  rintro e w' ⟨v', rfl, ho, hb⟩
  obtain ⟨a, c, rfl⟩ := (points_of_own ho).shape
  rw [hL] at ho
  exact ⟨a, c, by rw [hL], ho, hb⟩

set_option maxHeartbeats 1000000 in
theorem specTranslateFormula_any (v : Value) (ns : List Nd) (x : Int) (w : World) (h : Nodes w v ns) :
    Calls Try.prog 36 #[v, .int .i64 x] w fun e w' => ∃ v', e = .returned (.tuple #[v', .int .i64 (ttCode ns x)]) ∧ w'.ownsRow w.heap.size 86 3 v' (ttR ns x).length (cellsP (ttR ns x)) ∧ Below w.heap.size w w' := by
  have hv := Lib.hid h
  have hia := Lib.hid (l02Is_any v ns w h)
  clear h
  rcases tt_cases ns x with ⟨h1, h2, h3⟩ | ⟨h1, hx, h2, h3⟩ | ⟨t, h1, hx, h2, h3, h4, h5, h6, h7⟩
  · have h1 := Lib.hid h1
    have h2 := Lib.hid h2
    have h3 := Lib.hid h3
    go_enter Try.func36, Try.ntmps36
    go_wp2_with fail
    refine hia.out.mono ?_
    rintro e w1 ⟨rfl, rfl⟩
    rw [h1.out]
    go_wp2_with fail
    go_ret2
    exact ⟨_, by rw [h2.out]; rfl, by rw [h3.out]; exact World.ownsRow_nil _ _ _ _, Below.refl _ _⟩
  · have h1 := Lib.hid h1
    have h2 := Lib.hid h2
    have h3 := Lib.hid h3
    have e0 : (x != 0) = true := by rw [bne_iff_ne]; omega
    have e1 : (x != 1) = true := by rw [bne_iff_ne]; omega
    clear hx
    go_enter Try.func36, Try.ntmps36
    go_wp2_with fail
    refine hia.out.mono ?_
    rintro e w1 ⟨rfl, rfl⟩
    rw [h1.out]
    go_wp2_with fail
    go_ret2
    exact ⟨_, by rw [h2.out]; rfl, by rw [h3.out]; exact World.ownsRow_nil _ _ _ _, Below.refl _ _⟩
  · have h1 := Lib.hid h1
    have h2 := Lib.hid h2
    have h3 := Lib.hid h3
    obtain ⟨_, q1⟩ := trL_len t x h4
    rw [h5] at h6
    generalize hn : (trL t x).length = n at *
    have hn120 : n ≤ 120 := by omega
    have htr := Lib.hid (made_own hn (l10Translate_any t v x w h4 (by rw [← h5]; exact h7) (by rw [← h5]; exact hv.out) h6 hx))
    have hnh := Lib.hid hn
    clear hn h4 h5 h6 h7 q1 hv
    rcases hx with rfl | rfl
    all_goals
      go_enter Try.func36, Try.ntmps36
      go_wp2_with fail
      refine hia.out.mono ?_
      rintro e w1 ⟨rfl, rfl⟩
      rw [h1.out]
      go_wp2_with fail
      refine htr.out.mono ?_
      rintro e w2 ⟨a2, c2, rfl, ho, b2⟩
      go_wp2_with fail
      refine (l10Made_ok _ _ _ _ hn120).mono ?_
      rintro e w3 ⟨rfl, rfl⟩
      go_wp2_with fail
      go_ret2
      exact ⟨_, by rw [h2.out]; rfl, by rw [h3.out, hnh.out]; exact ho.out, b2⟩

set_option maxHeartbeats 1000000 in
theorem implTranslateFormula_any (v : Value) (ns : List Nd) (x : Int) (w : World) (h : Nodes w v ns) :
    Calls Try.prog 37 #[v, .int .i64 x] w fun e w' => ∃ v', e = .returned (.tuple #[v', .int .i64 (ttCode ns x)]) ∧ w'.ownsRow w.heap.size 86 3 v' (ttR ns x).length (cellsP (ttR ns x)) ∧ Below w.heap.size w w' := by
  have hv := Lib.hid h
  have hia := Lib.hid (isFormula_any v ns w h)
  clear h
  rcases tt_cases ns x with ⟨h1, h2, h3⟩ | ⟨h1, hx, h2, h3⟩ | ⟨t, h1, hx, h2, h3, h4, h5, h6, h7⟩
  · have h1 := Lib.hid h1
    have h2 := Lib.hid h2
    have h3 := Lib.hid h3
    go_enter Try.func37, Try.ntmps37
    go_wp2_with fail
    refine hia.out.mono ?_
    rintro e w1 ⟨rfl, b1⟩
    rw [h1.out]
    go_wp2_with fail
    go_ret2
    exact ⟨_, by rw [h2.out]; rfl, by rw [h3.out]; exact World.ownsRow_nil _ _ _ _, b1⟩
  · have h1 := Lib.hid h1
    have h2 := Lib.hid h2
    have h3 := Lib.hid h3
    have hin := Lib.hid (show inR x 0 1 = false by
      cases hh : inR x 0 1
      · rfl
      · have := inR_iff.1 hh; omega)
    clear hx
    go_enter Try.func37, Try.ntmps37
    go_wp2_with fail
    refine hia.out.mono ?_
    rintro e w1 ⟨rfl, b1⟩
    rw [h1.out]
    go_wp2_with fail
    refine (inRange_any _ _ _ _).mono ?_
    rintro e w2 ⟨rfl, rfl⟩
    rw [hin.out]
    go_wp2_with fail
    go_ret2
    exact ⟨_, by rw [h2.out]; rfl, by rw [h3.out]; exact World.ownsRow_nil _ _ _ _, b1⟩
  · have h1 := Lib.hid h1
    have h2 := Lib.hid h2
    have h3 := Lib.hid h3
    obtain ⟨_, q1⟩ := trL_len t x h4
    rw [h5] at h6
    generalize hn : (trL t x).length = n at *
    have hn120 : n ≤ 120 := by omega
    have htr := Lib.hid (fun W (hW : Below w.heap.size w W) => made_own hn (translate_any t v x W h4 (by rw [← h5]; exact h7) (by rw [← h5]; exact hv.out.below hW (Nat.le_refl _)) h6 hx))
    have hnh := Lib.hid hn
    have hin := Lib.hid (show inR x 0 1 = true from inR_iff.2 (by omega))
    clear hn h4 h5 h6 h7 q1 hv hx
    go_enter Try.func37, Try.ntmps37
    go_wp2_with fail
    refine hia.out.mono ?_
    rintro e w1 ⟨rfl, b1⟩
    rw [h1.out]
    go_wp2_with fail
    refine (inRange_any _ _ _ _).mono ?_
    rintro e w1' ⟨rfl, rfl⟩
    rw [hin.out]
    go_wp2_with fail
    refine (htr.out _ b1).mono ?_
    rintro e w2 ⟨a2, c2, rfl, ho, b2⟩
    have B2 := keep_step b2 b1
    go_wp2_with fail
    refine (limitedPoints_ok _ _ _ _ hn120).mono ?_
    rintro e w3 ⟨rfl, rfl⟩
    go_wp2_with fail
    go_ret2
    exact ⟨_, by rw [h2.out]; rfl, by rw [h3.out, hnh.out]; exact own_mono ho.out b1.size, B2⟩
end Go.Proofs.Ytadinbjhpbomkaa
