/- sameNodes9 and sameList9 at lists that read alike. -/
import Derived.Test.YtdpnkojchimmfaaQBNodeSSEqM
import Derived.Test.YtdpnkojchimmfaaQBIsSub
import Derived.Test.YtdpnkojchimmfaaQBUnif
import Derived.BigQuiet
import Derived.Test.YtdpnkojchimmfaaQBMatchTwo
import Derived.Test.YtdpnkojchimmfaaQBReplTwo
import Derived.Deep.RegionWith
import Derived.Deep.Cut
import Derived.Deep.DeepCutAuto

namespace Go.Proofs.Ytdpnkojchimmfaa
open Go.RowKit

set_option maxHeartbeats 1000000 in
theorem sameNodes9_same (v v' : Value) (xs : List Nd) (w : World) (h : Nodes w v xs) (h' : Nodes w v' xs) :
    Calls Try.prog 19 #[v, v'] w fun e w' => e = .returned (.bool true) ∧ Below w.heap.size w w' := by
  obtain ⟨hm, a, c, b, o, rfl, hc, h0, hcell⟩ := h.opened
  obtain ⟨hm', a', c', b', o', rfl, hc', h0', hcell'⟩ := h'.opened
  unfold maxLen at hm hm'
  clear h h'
  rcases h0 with h0 | ⟨h0, rfl⟩
  all_goals rcases h0' with h0' | ⟨h0', rfl⟩
  all_goals try (exfalso; omega)
  all_goals
    go_enter Try.func19, Try.ntmps19
    go_wp2_with fail
    go_loopw [5] (fun i wr => ∃ k : Nat, k ≤ xs.length ∧ i = .int .i64 k ∧ Below w.heap.size w wr) (fun i _ => xs.length - (intOf i).toNat)
    case atStart => exact ⟨0, Nat.zero_le _, rfl, Below.refl _ _⟩
    case round =>
      obtain ⟨k, hk, rfl, hb⟩ := hrel
      by_cases hlt : k < xs.length
      · all_goals try (exfalso; omega)
        all_goals
          obtain ⟨x, y, hx, hcx, hcy⟩ := hcell.out k hlt
          obtain ⟨x', y', hx', hcx', hcy'⟩ := hcell'.out k hlt
          rw [hx] at hx'
          obtain ⟨rfl, rfl⟩ : x = x' ∧ y = y' := by have := Option.some.inj hx'; exact ⟨congrArg Prod.fst this, congrArg Prod.snd this⟩
          clear hx hx'
          have hcx := keep_cell hb hcx
          have hcy := keep_cell hb hcy
          have hcx' := keep_cell hb hcx'
          have hcy' := keep_cell hb hcy'
          go_wp2_with fail
          go_quiet (fail)
          go_wp2_with fail
          go_roundw
          case rel => exact ⟨k + 1, by omega, by go_num, hb.trans (below_drewN' _ _)⟩
          case measure => simp [intOf]; omega
      · obtain rfl : k = xs.length := by omega
        go_wp2_with fail
        go_ret
        exact ⟨rfl, hb⟩

set_option maxHeartbeats 1000000 in
theorem sameList9_same (v v' : Value) (Is : List (List Nd)) (w : World) (h : Fs w v Is) (h' : Fs w v' Is) :
    Calls Try.prog 23 #[v, v'] w fun e w' => e = .returned (.bool true) ∧ Below w.heap.size w w' := by
  obtain ⟨a, c, b, o, rfl, hc, hm, ha, hcell⟩ := h.cells
  obtain ⟨a', c', b', o', rfl, hc', _, ha', hcell'⟩ := h'.cells
  unfold maxLen at hm
  clear h h'
  have hah := Lib.hid ha
  have hah' := Lib.hid ha'
  clear ha ha'
  go_enter Try.func23, Try.ntmps23
  go_wp2_with fail
  go_loopw [5] (fun i wr => ∃ k : Nat, k ≤ Is.length ∧ i = .int .i64 k ∧ Below w.heap.size w wr) (fun i _ => Is.length - (intOf i).toNat)
  case atStart => exact ⟨0, Nat.zero_le _, rfl, Below.refl _ _⟩
  case round =>
    obtain ⟨k, hk, rfl, hb⟩ := hrel
    by_cases hlt : k < Is.length
    · obtain rfl := hah.out (by omega)
      obtain rfl := hah'.out (by omega)
      obtain ⟨vI, I, hI, hcI, hnI⟩ := hcell.out k hlt
      obtain ⟨vJ, J, hJ, hcJ, hnJ⟩ := hcell'.out k hlt
      obtain rfl : I = J := by rw [hI] at hJ; simpa using hJ
      have hcI := (hb.cell (p := ⟨b, o + k, none⟩) (World.block_lt_of_cell? w _ hcI)).trans hcI
      have hcJ := (hb.cell (p := ⟨b', o' + k, none⟩) (World.block_lt_of_cell? w _ hcJ)).trans hcJ
      obtain ⟨a1, c1, rfl⟩ := hnI.shape
      obtain ⟨a2, c2, rfl⟩ := hnJ.shape
      have heq := Lib.hid (fun W (hW : Below w.heap.size w W) => sameNodes9_same _ _ I W (hnI.below hW (Nat.le_refl _)) (hnJ.below hW (Nat.le_refl _)))
      have hki : (k : Int) < (Is.length : Int) := by omega
      clear hI hJ hnI hnJ
      go_wp2_with fail
      (first | (go_region_held3 (fun W => Below w.heap.size w W ∧ W.cell? ⟨b, o + k, none⟩ = some (.slice a1 I.length c1) ∧ W.cell? ⟨b', o' + k, none⟩ = some (.slice a2 I.length c2)) (first | (refine ⟨?_, ?_, ?_⟩ <;> (first | assumption | (exact Below.drew (by assumption)))) | (obtain ⟨hs1, hs2, hs3⟩ := ‹Below _ _ _ ∧ _ ∧ _›; exact ⟨keep_step (by assumption) hs1, keep_cell (by assumption) hs2, keep_cell (by assumption) hs3⟩)) (first | (go_at_call 19; refine (heq.out _ (And.left ‹Below w.heap.size w _ ∧ _ ∧ _›)).mono ?_; rintro e w' ⟨rfl, hb'⟩))) | fail)
      all_goals
        go_wp2_with fail
        go_roundw
        case rel => exact ⟨k + 1, by omega, by go_num, by first | assumption | exact (‹Below w.heap.size w _ ∧ _ ∧ _›).1⟩
        case measure => simp [intOf]; omega
    · obtain rfl : k = Is.length := by omega
      go_wp2_with fail
      go_ret
      exact ⟨rfl, hb⟩
end Go.Proofs.Ytdpnkojchimmfaa

/- MatchFormula: the program's whole walk; the reference's walk. -/
namespace Go.Proofs.Ytdpnkojchimmfaa
open Go.RowKit Go.Deep

theorem mt_cases (a b : List Nd) : ((formB a && formB b) = false ∧ mtCode a b = 1 ∧ mtR a b = []) ∨ ((formB a && formB b) = true ∧ mtOpt a b = none ∧ mtCode a b = 4 ∧ mtR a b = []) ∨ ∃ M, (formB a && formB b) = true ∧ mtOpt a b = some M ∧ mtCode a b = 0 ∧ mtR a b = finM M := by
  unfold mtCode mtR form2
  cases (formB a && formB b) <;> cases mtOpt a b <;> simp

set_option maxHeartbeats 1000000 in
theorem implMatchFormula_any (v : Value) (a : List Nd) (u : Value) (b : List Nd) (w : World) (h : Nodes w v a) (hu : Nodes w u b) :
    Calls Try.prog 20 #[v, u] w fun e w' => ∃ v', e = .returned (.tuple #[v', .int .i64 (mtCode a b)]) ∧ OwnSS w.heap.size w'.heap.size w' v' (mtR a b) ∧ Below w.heap.size w w' := by
  obtain ⟨aa, ca, rfl⟩ := h.shape
  obtain ⟨ab, cb, rfl⟩ := hu.shape
  have hA := Lib.hid (areFormulas_two w aa ab _ _ ca cb a b 27 h hu)
  have hba := Lib.hid ((Below.refl w.heap.size w).alloc (Nat.le_refl _) (.cells #[.slice aa a.length ca, .slice ab b.length cb] 27))
  have hM := Lib.hid (fun hf hg w1 (hb : Below w.heap.size w w1) => match_any _ _ a b w1 (h.below hb (Nat.le_refl _)) (hu.below hb (Nat.le_refl _)) hf hg)
  clear h hu
  rcases mt_cases a b with ⟨h1, h2, h3⟩ | ⟨h1, h2, h3, h4⟩ | ⟨M, h1, h2, h3, h4⟩
  · have h1 := Lib.hid h1
    have h2 := Lib.hid h2
    have h3 := Lib.hid h3
    generalize a.length = la at *
    generalize b.length = lb at *
    go_enter Try.func20, Try.ntmps20
    go_wp2_with fail
    refine hA.out.mono ?_
    rintro e w1 ⟨rfl, b1⟩
    rw [h1.out]
    have B1 := b1
    go_wp2_with fail
    go_ret2
    exact ⟨_, by rw [h2.out]; rfl, by rw [h3.out]; exact OwnSS.nil _ _, B1⟩
  · have h1' := (Bool.and_eq_true _ _).mp h1
    have hM := Lib.hid (hM.out h1'.1 h1'.2)
    have h1 := Lib.hid h1
    have h2 := Lib.hid h2
    have h3 := Lib.hid h3
    have h4 := Lib.hid h4
    clear h1'
    generalize a.length = la at *
    generalize b.length = lb at *
    go_enter Try.func20, Try.ntmps20
    go_wp2_with fail
    refine hA.out.mono ?_
    rintro e w1 ⟨rfl, b1⟩
    rw [h1.out]
    have B1 := b1
    go_wp2_with fail
    refine (hM.out _ B1).mono ?_
    rintro e w2 ⟨⟨M, v', h5, _⟩ | ⟨_, rfl⟩, b2⟩
    · rw [h2.out] at h5; cases h5
    · have B2 := keep_step b2 B1
      go_wp2_with fail
      go_ret2
      exact ⟨_, by rw [h3.out]; rfl, by rw [h4.out]; exact OwnSS.nil _ _, B2⟩
  · have h1' := (Bool.and_eq_true _ _).mp h1
    have hM := Lib.hid (hM.out h1'.1 h1'.2)
    have h1 := Lib.hid h1
    have h2 := Lib.hid h2
    have h3 := Lib.hid h3
    have h4 := Lib.hid h4
    clear h1'
    generalize a.length = la at *
    generalize b.length = lb at *
    go_enter Try.func20, Try.ntmps20
    go_wp2_with fail
    refine hA.out.mono ?_
    rintro e w1 ⟨rfl, b1⟩
    rw [h1.out]
    have B1 := b1
    go_wp2_with fail
    refine (hM.out _ B1).mono ?_
    rintro e w2 ⟨⟨M', v', h5, rfl, ho⟩ | ⟨h5, _⟩, b2⟩
    · have B2 := keep_step b2 B1
      have ho := Lib.hid (ho.mono B1.size)
      have h5 := Lib.hid h5
      go_wp2_with fail
      go_ret2
      refine ⟨_, by rw [h3.out]; rfl, ?_, B2⟩
      have e : M' = M := by
        have h6 := h5.out
        rw [h2.out] at h6
        exact (Option.some.inj h6).symm
      rw [h4.out, ← e]
      exact ho.out
    · rw [h2.out] at h5; cases h5
end Go.Proofs.Ytdpnkojchimmfaa
