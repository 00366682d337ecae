/- What an argument that is a slice of steps reads as. -/
import Derived.Test.YtggelkhfkhbgmaaStpEq
import Derived.Test.YtggelkhfkhbgmaaIntSSOpen
namespace Go.Proofs.Ytggelkhfkhbgmaa
open Go.RowKit Go.ChangeShapes Go.WideShapes Go.ChangeAt Go.Deep
set_option linter.unusedVariables false

section
variable {H : Type} {enc : TypeId × Value → H} {P : Program} {W : World}

theorem open_Steps {t e ei e2 : TypeId} {f0 f1 f2 f3 : Field} (ht : P.underlying t = some (.slice e)) (he : P.underlying e = some (.struct #[f0, f1, f2, f3])) (hs : P.underlying ei = some (.slice e2)) (hi : P.underlying e2 = some (.int .i64))
    (ce : P.cellsOf e = 4) (cs : P.cellsOf ei = 1) (ci : P.cellsOf e2 = 1) (t0 : f0.type = ei) (t1 : f1.type = e2) (t2 : f2.type = e2) (t3 : f3.type = e2) (o0 : f0.offset = 0) (o1 : f1.offset = 1) (o2 : f2.offset = 2) (o3 : f3.offset = 3) {a : Option Addr} {len cap : Nat} {d : DataW H} {p : List MemPlace}
    (h : DataW.Trod enc P W 0 (fun _ => true) true t (.slice a len cap) d p) : ∃ S, Steps W (.slice a len cap) S := by
  obtain ⟨fuel, hf⟩ := h
  rcases open_slice ht hf with ⟨hcs, _⟩ | ⟨x, l, c, m, n, D, Pl, hcs, _, hl, hm, hmm, _, hx⟩
  · simp [Value.cells] at hcs
    obtain ⟨rfl, rfl, rfl⟩ := hcs
    exact ⟨[], by simp, none, 0, 0, 0, rfl, Nat.le_refl _, by simp, fun i s hs => by simp at hs⟩
  · simp [Value.cells] at hcs
    obtain ⟨rfl, rfl, rfl⟩ := hcs
    simp only [if_true] at hmm
    subst hmm
    have each : ∀ i, i < len → ∃ s : Stp, ∃ u, W.cell? (x.add (i * 4)) = some u ∧ Ints W u s.1 ∧ W.cell? (x.add (i * 4 + 1)) = some (.int .i64 s.2.1) ∧ W.cell? (x.add (i * 4 + 2)) = some (.int .i64 s.2.2.1) ∧ W.cell? (x.add (i * 4 + 3)) = some (.int .i64 s.2.2.2) := by
      intro i hi'
      obtain ⟨cs', h1, h2⟩ := hx i (by omega)
      rw [ce] at h1
      obtain ⟨_, hlen, hcell⟩ := World.cells?_some h1
      obtain ⟨xs, k, hk, hxy, _, hxl, hf⟩ := DataW.trod_struct he h2
      match xs, hxl, cs', hlen with
      | [y0, y1, y2, y3], _, [v0, v1, v2, v3], _ =>
        have g0 := hf 0 f0 rfl
        have g1 := hf 1 f1 rfl
        have g2 := hf 2 f2 rfl
        have g3 := hf 3 f3 rfl
        simp [o0, t0, cs] at g0
        simp [o1, t1, ci] at g1
        simp [o2, t2, ci] at g2
        simp [o3, t3, ci] at g3
        have e0 := hcell 0 (by omega)
        have e1 := hcell 1 (by omega)
        have e2' := hcell 2 (by omega)
        have e3 := hcell 3 (by omega)
        rw [add_add] at e0 e1 e2' e3
        obtain ⟨hd, zs, rfl, hin, _⟩ := open_IntsC hs hi ci g0
        obtain ⟨z1, q1, _, _⟩ := DataW.trod_int hi g1
        obtain ⟨z2, q2, _, _⟩ := DataW.trod_int hi g2
        obtain ⟨z3, q3, _, _⟩ := DataW.trod_int hi g3
        simp at q1 q2 q3
        subst q1; subst q2; subst q3
        exact ⟨(zs, z1, z2, z3), _, by simpa using e0, hin, by simpa using e1, by simpa using e2', by simpa using e3⟩
    have hS : ∀ k, k ≤ len → ∃ S : List Stp, S.length = k ∧ ∀ i s, S[i]? = some s → ∃ u, W.cell? (x.add (i * 4)) = some u ∧ Ints W u s.1 ∧ W.cell? (x.add (i * 4 + 1)) = some (.int .i64 s.2.1) ∧ W.cell? (x.add (i * 4 + 2)) = some (.int .i64 s.2.2.1) ∧ W.cell? (x.add (i * 4 + 3)) = some (.int .i64 s.2.2.2) := by
      intro k
      induction k with
      | zero => exact fun _ => ⟨[], rfl, fun i s h => by simp at h⟩
      | succ k ih =>
        intro hk
        obtain ⟨S, hl', hh⟩ := ih (by omega)
        obtain ⟨s, hs1⟩ := each k (by omega)
        refine ⟨S ++ [s], by simp [hl'], fun i t ht' => ?_⟩
        rcases Nat.lt_or_ge i S.length with h | h
        · rw [List.getElem?_append_left h] at ht'; exact hh i t ht'
        · rw [List.getElem?_append_right h] at ht'
          have : i - S.length = 0 := by
            rcases Nat.eq_zero_or_pos (i - S.length) with h0 | h0
            · exact h0
            · rw [List.getElem?_eq_none (by simp; omega)] at ht'; cases ht'
          rw [this] at ht'
          obtain rfl : s = t := by simpa using ht'
          have : i = k := by omega
          subst this
          exact hs1
    obtain ⟨S, hSl, hh⟩ := hS len (Nat.le_refl _)
    refine ⟨S, by omega, ?_⟩
    obtain ⟨b, o, s0⟩ := x
    rcases Nat.eq_zero_or_pos len with h0 | h0
    · obtain rfl : S = [] := List.eq_nil_of_length_eq_zero (by omega)
      subst h0
      exact ⟨_, _, 0, 0, rfl, hl, by simp, fun i s hs => by simp at hs⟩
    · obtain ⟨s, hs'⟩ : ∃ s, S[0]? = some s := ⟨_, List.getElem?_eq_getElem (by omega)⟩
      obtain ⟨u, h1, _⟩ := hh 0 s hs'
      have hs0 : s0 = none := by simpa [Addr.add] using World.cell?_spot h1
      subst hs0
      refine ⟨some ⟨b, o, none⟩, _, b, o, by rw [hSl], by omega, fun _ => rfl, fun i s hs => ?_⟩
      obtain ⟨u, c0, ci', c1, c2, c3⟩ := hh i s hs
      rw [Addr.add_lit] at c0 c1 c2 c3
      exact ⟨u, c0, ci', by rw [Nat.add_assoc]; exact c1, by rw [Nat.add_assoc]; exact c2, by rw [Nat.add_assoc]; exact c3⟩
end

set_option maxRecDepth 100000 in
theorem open_resolvents_arg {H : Type} {enc : TypeId × Value → H} {W : World} {r : Reach} {b0 : Nat} {v : Value} {d : DataW H} {p : List MemPlace} (hv : Value.okWide Try.prog W r b0 31 v) (h : DataW.Trod enc Try.prog W 0 (fun _ => true) true 31 v d p) : ∃ S, Steps W v S := by
  obtain ⟨a, len, cap, rfl⟩ := okWide_slice Try.underlying31 hv
  exact open_Steps Try.underlying31 Try.underlying44 Try.underlying22 Try.underlying2 (by kernel_rfl) (by kernel_rfl) (by kernel_rfl) rfl rfl rfl rfl rfl rfl rfl rfl h
end Go.Proofs.Ytggelkhfkhbgmaa
