/- The walk of ReplaceVariable, of the reference. -/
import Derived.Test.YtadinbjhpbomkaaReplTwo
namespace Go.Proofs.Ytadinbjhpbomkaa
open Go.RowKit

set_option maxHeartbeats 1000000 in
theorem specReplaceVariable_any (v : Value) (ns : List Nd) (u : Int) (vb : Value) (bs : List Nd) (w : World) (h : Nodes w v ns) (hu : Nodes w vb bs) :
    Calls Try.prog 17 #[v, .int .i64 u, vb] w fun e w' => ∃ v', e = .returned (.tuple #[v', .int .i64 (replCode ns u bs)]) ∧ w'.ownsRow w.heap.size 59 2 v' (replR ns u bs).length (cellsN (replR ns u bs)) ∧ Below w.heap.size w w' := by
  have hv := Lib.hid h
  have hu := Lib.hid hu
  clear h
  have hia := Lib.hid (l02Is_any v ns w hv.out)
  have hib := Lib.hid (l02Is_any vb bs w hu.out)
  rcases repl_cases ns u bs with ⟨h1, h2, h3⟩ | ⟨h1, h2, h3, h4⟩ | ⟨h1, h2, hl, h3, h4⟩ | ⟨h1, h2, hl, h3, h4⟩
  · have h2 := Lib.hid h2
    have h3 := Lib.hid h3
    cases hB : formB ns
    · have hf := Lib.hid hB
      clear h1
      go_enter Try.func17, Try.ntmps17
      go_wp2_with fail
      refine hia.out.mono ?_
      rintro e w1 ⟨rfl, rfl⟩
      rw [hf.out]
      go_wp2_with fail
      go_ret2
      exact ⟨_, by rw [h2.out]; rfl, by rw [h3.out]; exact World.ownsRow_nil _ _ _ _, Below.refl _ _⟩
    · have hf := Lib.hid hB
      have hg := Lib.hid (show formB bs = false by rw [hB] at h1; simpa using h1)
      clear h1
      go_enter Try.func17, Try.ntmps17
      go_wp2_with fail
      refine hia.out.mono ?_
      rintro e w1 ⟨rfl, rfl⟩
      rw [hf.out]
      go_wp2_with fail
      refine hib.out.mono ?_
      rintro e w1 ⟨rfl, rfl⟩
      rw [hg.out]
      go_wp2_with fail
      go_ret2
      exact ⟨_, by rw [h2.out]; rfl, by rw [h3.out]; exact World.ownsRow_nil _ _ _ _, Below.refl _ _⟩
  · have h1' := (Bool.and_eq_true _ _).mp h1
    have hf := Lib.hid h1'.1
    have hg := Lib.hid h1'.2
    have hne := Lib.hid h2
    have h3 := Lib.hid h3
    have h4 := Lib.hid h4
    clear h1 h2 h1'
    go_enter Try.func17, Try.ntmps17
    go_wp2_with fail
    refine hia.out.mono ?_
    rintro e w1 ⟨rfl, rfl⟩
    rw [hf.out]
    go_wp2_with fail
    refine hib.out.mono ?_
    rintro e w1 ⟨rfl, rfl⟩
    rw [hg.out]
    go_wp2_with fail
    refine (l01In_any _ _ _ _).mono ?_
    rintro e w1 ⟨rfl, rfl⟩
    rw [hne.out]
    go_wp2_with fail
    go_ret2
    exact ⟨_, by rw [h3.out]; rfl, by rw [h4.out]; exact World.ownsRow_nil _ _ _ _, Below.refl _ _⟩
  all_goals
    have h1' := (Bool.and_eq_true _ _).mp h1
    have hu5 := inR_iff.1 h2
    obtain ⟨U, rfl⟩ : ∃ U : Nat, u = (U : Int) := ⟨u.toNat, by omega⟩
    obtain ⟨hp0, hp1⟩ := form_len3 h1'.1
    obtain ⟨hq0, hq1⟩ := form_len3 h1'.2
    obtain ⟨h6, hI⟩ := repl_images (u := U) hq0 hq1
    have hal := form_all3 h1'.1
    have hbi := Lib.hid (l03Bind_any U (by omega) vb bs w hu.out hq0 (by omega))
    have hj := Lib.hid (fun w1 v1 (hb1 : Below w.heap.size w w1) hF => l03Sub_any v v1 ns ((selfL 6).set U bs) w1 (hv.out.below hb1 (Nat.le_refl _)) hp1 hp0 hal hF h6 hI)
    have hR := Lib.hid (show replL ns (U : Int) bs = subL ((selfL 6).set U bs) ns from rfl)
    have hbig := replL_len (u := U) h1'.1 h1'.2
    have hf := Lib.hid h1'.1
    have hg := Lib.hid h1'.2
    have hne := Lib.hid h2
    have h3 := Lib.hid h3
    have h4 := Lib.hid h4
    rw [hR.out] at hl hbig
    try rw [hR.out] at h4
    clear h1 h2 h1' hu5 h6 hI hal hR hp0 hp1 hq0 hq1
    generalize subL ((selfL 6).set U bs) ns = R at *
    go_enter Try.func17, Try.ntmps17
    go_wp2_with fail
    refine hia.out.mono ?_
    rintro e w1 ⟨rfl, rfl⟩
    rw [hf.out]
    go_wp2_with fail
    refine hib.out.mono ?_
    rintro e w1 ⟨rfl, rfl⟩
    rw [hg.out]
    go_wp2_with fail
    refine (l01In_any _ _ _ _).mono ?_
    rintro e w1 ⟨rfl, rfl⟩
    rw [hne.out]
    go_wp2_with fail
    refine hbi.out.mono ?_
    rintro e w1 ⟨v1, rfl, hF, hb1⟩
    have hF := Lib.hid hF
    have hs1 := hb1.size
    go_wp2_with fail
    refine (hj.out _ _ hb1 hF.out).mono ?_
    rintro e w2 ⟨v', rfl, ho, hb2⟩
    have hb3 := hb1.trans (hb2.mono hs1)
    obtain ⟨a1, c1, hsh⟩ := (nodes_of_own ho).shape
    subst hsh
    have ho := Lib.hid (own_mono ho hs1)
    generalize hNR : R.length = N at *
    have hNR := Lib.hid hNR
    go_wp2_with fail
    first
      | refine (l02Made_big _ _ _ _ hl (by omega)).mono ?_
      | refine (l02Made_ok _ _ _ _ hl).mono ?_
    rintro e w3 ⟨rfl, rfl⟩
    go_wp2_with fail
    go_ret2
    first
      | exact ⟨_, by rw [h3.out]; rfl, by rw [h4.out]; exact World.ownsRow_nil _ _ _ _, hb3⟩
      | exact ⟨_, by rw [h3.out]; rfl, by rw [h4.out, hNR.out]; exact ho.out, hb3⟩
end Go.Proofs.Ytadinbjhpbomkaa
