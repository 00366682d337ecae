/- impl.FirstBadResolvent. -/
import Derived.Test.YtggelkhfkhbgmaaFbIn
namespace Go.Proofs.Ytggelkhfkhbgmaa
open Go.RowKit
set_option linter.unusedVariables false
set_option linter.unusedSimpArgs false

def fbCode (Is : List (List Int)) : Int := if Is.all clauseB then 0 else 1
def fbX (Is : List (List Int)) (S : List Stp) (x : Int) : Prop := if Is.all clauseB then isFirst Is S x else x = 0
theorem fbX_one {Is : List (List Int)} {S : List Stp} {x y : Int} (hx : fbX Is S x) (hy : fbX Is S y) : x = y := by
  unfold fbX at hx hy
  split at hx
  · rename_i h
    rw [if_pos h] at hy
    exact isFirst_one hx hy
  · rename_i h
    rw [if_neg h] at hy
    rw [hx, hy]
theorem all_mem {Is : List (List Int)} (h : Is.all clauseB = true) : ∀ I ∈ Is, clauseB I = true := by simpa using h
set_option maxHeartbeats 8000000 in
set_option maxRecDepth 100000 in
theorem implFirstBad_any (vI vS : Value) (Is : List (List Int)) (S : List Stp) (w : World) (hI : Fi w vI Is) (hS : Steps w vS S) (hl : S.length ≤ 1048576) :
    Calls Try.prog 18 #[vI, vS] w fun e w' => ∃ x : Int, e = .returned (.tuple #[.int .i64 x, .int .i64 (fbCode Is)]) ∧ Hid (fbX Is S x) ∧ Below w.heap.size w w' := by
  have hcl := Lib.hid (areClauses_any vI Is w hI)
  cases hall : Is.all clauseB
  · have hcode : fbCode Is = 1 := by unfold fbCode; rw [hall]; rfl
    have hx0 := Lib.hid (show fbX Is S 0 by unfold fbX; rw [hall]; rfl)
    rw [hcode]
    rw [hall] at hcl
    clear hI hS hcode hall
    go_enter Try.func18, Try.ntmps18
    go_wp2_with fail
    refine hcl.out.mono ?_
    rintro e w1 ⟨rfl, b1⟩
    go_wp2_with fail
    go_ret2
    exact ⟨_, rfl, hx0, b1⟩
  · have hcode : fbCode Is = 0 := by unfold fbCode; rw [hall]; rfl
    have hX := Lib.hid (fun x (h : isFirst Is S x) => show fbX Is S x by unfold fbX; rw [hall]; exact h)
    have hmem := Lib.hid (all_mem hall)
    rw [hcode]
    rw [hall] at hcl
    clear hcode hall
    obtain ⟨hm, a, c, b, o, rfl, hcc, ha, hcell⟩ := hS.opened
    have hg := Lib.hid (fun (k : Nat) (hk : k ≤ S.length) (s : Stp) (u : Option Addr) (cp : Nat) (hx : Ints w (.slice u s.1.length cp) s.1) (hf : fineTo Is S k) W (hb : Below w.heap.size w W) =>
      isGood_any vI (.slice a k c) Is (S.take k) s u cp W (hI.below hb (Nat.le_refl _)) ((hS.take k hk).below hb (Nat.le_refl _)) (hx.below hb (Nat.le_refl _))
        (fun i t ht => by
          rw [List.getElem?_take] at ht
          split at ht
          · exact fineTo_clause hmem.out hf (by assumption) ht
          · cases ht) (by rw [List.length_take]; omega))
    clear hI hS
    unfold maxLen at hm
    go_enter Try.func18, Try.ntmps18
    go_wp2_with fail
    refine hcl.out.mono ?_
    rintro e w1 ⟨rfl, b1⟩
    go_wp2_with fail
    go_loopw [13] (fun i wr => ∃ k : Nat, k ≤ S.length ∧ i = .int .i64 k ∧ Hid (fineTo Is S k) ∧ Below w.heap.size w wr) (fun i _ => S.length - (intOf i).toNat)
    case atStart => exact ⟨0, Nat.zero_le _, rfl, fineTo_zero Is S, b1⟩
    case round =>
      obtain ⟨k, hk, rfl, hf, hb⟩ := hrel
      by_cases hlt : k < S.length
      · have ha2 : a = some ⟨b, o, none⟩ := by
          rcases ha with h | ⟨_, h⟩
          · exact absurd h (by omega)
          · exact h
        subst ha2
        obtain ⟨xs, x, y, z, u, n, cp, hSk, c0, hin, c1, c2, c3⟩ := hcell.out k hlt
        obtain ⟨_, _, e0⟩ := hin.shape
        injection e0 with e1 e2 e3
        subst e2; clear e1 e3
        have hgk := Lib.hid (hg.out k hk (xs, x, y, z) u cp hin hf.out)
        have c0 := keep_cell hb c0
        have c1 := keep_cell hb c1
        have c2 := keep_cell hb c2
        have c3 := keep_cell hb c3
        have hSk := Lib.hid hSk
        clear hin
        have hfs := Lib.hid (fun (h : fineB Is (S.take k) (xs, x, y, z) = true) => fineTo_succ hf.out hSk.out h)
        have hfx := Lib.hid (fun (h : fineB Is (S.take k) (xs, x, y, z) = false) => hX.out (k : Int) (.inr ⟨k, _, rfl, hSk.out, hf.out, h⟩))
        generalize fineB Is (S.take k) (xs, x, y, z) = FB at *
        go_wp2_with fail
        have hb := hb.alloc hb.size (.cells #[.slice u xs.length cp, .int .i64 x, .int .i64 y, .int .i64 z] 47)
        have d0 : (wr.alloc (.cells #[.slice u xs.length cp, .int .i64 x, .int .i64 y, .int .i64 z] 47)).cell? ⟨wr.heap.size, 0, none⟩ = some (.slice u xs.length cp) := by simp
        have d1 : (wr.alloc (.cells #[.slice u xs.length cp, .int .i64 x, .int .i64 y, .int .i64 z] 47)).cell? ⟨wr.heap.size, 1, none⟩ = some (.int .i64 x) := by simp
        have d2 : (wr.alloc (.cells #[.slice u xs.length cp, .int .i64 x, .int .i64 y, .int .i64 z] 47)).cell? ⟨wr.heap.size, 2, none⟩ = some (.int .i64 y) := by simp
        have d3 : (wr.alloc (.cells #[.slice u xs.length cp, .int .i64 x, .int .i64 y, .int .i64 z] 47)).cell? ⟨wr.heap.size, 3, none⟩ = some (.int .i64 z) := by simp
        generalize (wr.alloc (.cells #[.slice u xs.length cp, .int .i64 x, .int .i64 y, .int .i64 z] 47)) = w3 at *
        generalize wr.heap.size = g at *
        clear c0 c1 c2 c3
        have q0 : (0 : Int) ≤ (k : Int) := by omega
        have q1 : (k : Int) ≤ (c : Int) := by omega
        have q2 : k ≤ c := by omega
        have q3 : (k : Int) ≤ (S.length : Int) := by omega
        (first | (go_region_held3 (fun W => Below w.heap.size w W ∧ W.cell? ⟨g, 0, none⟩ = some (.slice u xs.length cp) ∧ W.cell? ⟨g, 1, none⟩ = some (.int .i64 x) ∧ W.cell? ⟨g, 2, none⟩ = some (.int .i64 y) ∧ W.cell? ⟨g, 3, none⟩ = some (.int .i64 z)) (first | (refine ⟨?_, ?_, ?_, ?_, ?_⟩ <;> (first | assumption | (exact Below.drew (by assumption)))) | (obtain ⟨hs1, hs2, hs3, hs4, hs5⟩ := ‹Below _ _ _ ∧ _ ∧ _ ∧ _ ∧ _›; exact ⟨keep_step (by assumption) hs1, keep_cell (by assumption) hs2, keep_cell (by assumption) hs3, keep_cell (by assumption) hs4, keep_cell (by assumption) hs5⟩)) (first | (go_at_call 32; refine (hgk.out _ (And.left ‹Below w.heap.size w _ ∧ _ ∧ _ ∧ _ ∧ _›)).mono ?_; rintro e w' ⟨rfl, hb'⟩))) | fail)
        all_goals
          obtain ⟨hs1, _⟩ := ‹Below w.heap.size w _ ∧ _ ∧ _ ∧ _ ∧ _›
          cases FB
          · have hx := Lib.hid (hfx.out rfl)
            go_wp2_with fail
            go_ret2
            exact ⟨_, rfl, hx, hs1⟩
          · have hfn := Lib.hid (hfs.out rfl)
            go_wp2_with fail
            go_roundw
            case rel => exact ⟨k + 1, by omega, by go_num, hfn, hs1⟩
            case measure => simp [intOf]; omega
      · obtain rfl : k = S.length := by omega
        have hx := Lib.hid (hX.out (-1) (.inl ⟨rfl, hf.out⟩))
        go_wp2_with fail
        go_ret2
        exact ⟨_, rfl, hx, hb⟩
end Go.Proofs.Ytggelkhfkhbgmaa
