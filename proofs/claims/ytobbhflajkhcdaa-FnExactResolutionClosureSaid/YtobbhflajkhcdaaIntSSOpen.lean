/- What an argument that is a list of lists of int64 reads as. (written by turnii.py) -/
import Derived.Test.YtobbhflajkhcdaaOpen
import Derived.Test.YtobbhflajkhcdaaIntSS
namespace Go.Proofs.Ytobbhflajkhcdaa
open Go.RowKit Go.ChangeShapes Go.WideShapes Go.ChangeAt Go.Deep

section
variable {H : Type} {enc : TypeId × Value → H} {P : Program} {W : World}

theorem open_IntsC {t e : TypeId} (ht : P.underlying t = some (.slice e)) (he : P.underlying e = some (.int .i64)) (ce : P.cellsOf e = 1) {v : Value} {fuel : Nat} {y : DataW H × List MemPlace}
    (h : DataW.trod enc P W 0 (fun _ => true) true fuel t [v] = some y) : ∃ hd xs, v = slVI (hd, xs) ∧ Ints W v xs ∧ ∀ x ∈ xs, (Lit.int .i64 x).wf = true := by
  have hv : ∃ a len cap, v = .slice a len cap := by
    rcases open_slice ht h with ⟨hcs, _⟩ | ⟨a, len, cap, m, n, D, Pl, hcs, _⟩
    · simp at hcs; exact ⟨_, _, _, hcs⟩
    · simp at hcs; exact ⟨_, _, _, hcs⟩
  obtain ⟨a, len, cap, rfl⟩ := hv
  obtain ⟨xs, hn, hz⟩ := open_Ints (enc := enc) ht he ce (a := a) (len := len) (cap := cap) (d := y.1) (p := y.2) ⟨fuel, h⟩
  exact ⟨(a, len, cap), xs, rfl, hn, hz⟩

theorem open_Fi {ts t e : TypeId} (hts : P.underlying ts = some (.slice t)) (cts : P.cellsOf t = 1) (ht : P.underlying t = some (.slice e)) (he : P.underlying e = some (.int .i64))
    (ce : P.cellsOf e = 1) {a : Option Addr} {len cap : Nat} {d : DataW H} {p : List MemPlace}
    (h : DataW.Trod enc P W 0 (fun _ => true) true ts (.slice a len cap) d p) : ∃ Is, Fi W (.slice a len cap) Is ∧ ∀ I ∈ Is, ∀ x ∈ I, (Lit.int .i64 x).wf = true := by
  obtain ⟨fuel, hf⟩ := h
  rcases open_slice1 hts cts hf with ⟨hcs, _⟩ | ⟨x, l, c, m, n, V, D, Pl, hcs, _, hl, hm, hmm, _, hcell⟩
  · simp [Value.cells] at hcs
    obtain ⟨rfl, rfl, rfl⟩ := hcs
    exact ⟨[], ⟨[], ⟨rfl, by simp, none, 0, 0, 0, rfl, Nat.le_refl _, by simp, by simp⟩, fun _ h => absurd h List.not_mem_nil, rfl⟩, fun _ h => absurd h List.not_mem_nil⟩
  · simp [Value.cells] at hcs
    obtain ⟨rfl, rfl, rfl⟩ := hcs
    simp only [if_true] at hmm
    subst hmm
    have hv : ∀ i, i < len → ∃ s : SlI, V i = slVI s ∧ Ints W (V i) s.2 ∧ ∀ x ∈ s.2, (Lit.int .i64 x).wf = true := by
      intro i hi'
      obtain ⟨_, h2⟩ := hcell i (by omega)
      obtain ⟨hd, ns, e1, e2, e3⟩ := open_IntsC ht he ce h2
      exact ⟨(hd, ns), e1, e2, e3⟩
    have hs : ∀ k, k ≤ len → ∃ ss : List SlI, ss.length = k ∧ ∀ i s, ss[i]? = some s → V i = slVI s ∧ Ints W (V i) s.2 ∧ ∀ x ∈ s.2, (Lit.int .i64 x).wf = true := by
      intro k
      induction k with
      | zero => exact fun _ => ⟨[], rfl, fun i s h => by simp at h⟩
      | succ k ih =>
        intro hk
        obtain ⟨ss, hl', hh⟩ := ih (by omega)
        obtain ⟨s, hs1, hs2, hs3⟩ := hv k (by omega)
        refine ⟨ss ++ [s], by simp [hl'], fun i t ht' => ?_⟩
        rcases Nat.lt_or_ge i ss.length with h | h
        · rw [List.getElem?_append_left h] at ht'; exact hh i t ht'
        · rw [List.getElem?_append_right h] at ht'
          have : i - ss.length = 0 := by
            rcases Nat.eq_zero_or_pos (i - ss.length) with h0 | h0
            · exact h0
            · rw [List.getElem?_eq_none (by simp; omega)] at ht'; cases ht'
          rw [this] at ht'
          obtain rfl : s = t := by simpa using ht'
          have : i = k := by omega
          subst this
          exact ⟨hs1, hs2, hs3⟩
    obtain ⟨ss, hsl, hh⟩ := hs len (Nat.le_refl _)
    refine ⟨ss.map Prod.snd, ⟨ss, ?_, fun s hs' => ?_, rfl⟩, fun I hI => ?_⟩
    · obtain ⟨b, o, s0⟩ := x
      unfold SlicesI
      rw [hsl]
      rcases Nat.eq_zero_or_pos len with h0 | h0
      · subst h0
        obtain rfl : ss = [] := List.eq_nil_of_length_eq_zero hsl
        exact ⟨rfl, by simp, _, _, 0, 0, rfl, hl, by simp, by simp⟩
      · have h1 := (hcell 0 (by omega)).1
        have hs0 : s0 = none := by simpa [Addr.add] using World.cell?_spot h1
        subst hs0
        refine ⟨by simp [hsl], by omega, some ⟨b, o, none⟩, _, b, o, rfl, hl, fun _ => rfl, fun i u hu => ?_⟩
        rw [List.getElem?_map, Option.map_eq_some_iff] at hu
        obtain ⟨s, hs', rfl⟩ := hu
        have hi' : i < len := by rw [← hsl]; exact (List.getElem?_eq_some_iff.1 hs').1
        have h2 := (hcell i (by omega)).1
        rw [Addr.add_lit] at h2
        rw [h2, (hh i s hs').1]
    · obtain ⟨i, hi'⟩ := List.getElem?_of_mem hs'
      have := hh i s hi'
      have h1 := this.2.1
      rw [this.1] at h1
      exact h1
    · obtain ⟨s, hs', rfl⟩ := List.mem_map.1 hI
      obtain ⟨i, hi'⟩ := List.getElem?_of_mem hs'
      exact (hh i s hi').2.2
end

set_option maxRecDepth 100000 in
theorem open_intss_arg {H : Type} {enc : TypeId × Value → H} {W : World} {r : Reach} {b0 : Nat} {v : Value} {d : DataW H} {p : List MemPlace} (hv : Value.okWide Try.prog W r b0 22 v) (h : DataW.Trod enc Try.prog W 0 (fun _ => true) true 22 v d p) : ∃ Is, Fi W v Is ∧ ∀ I ∈ Is, ∀ x ∈ I, (Lit.int .i64 x).wf = true := by
  obtain ⟨a, len, cap, rfl⟩ := okWide_slice Try.underlying22 hv
  exact open_Fi Try.underlying22 (by kernel_rfl) Try.underlying30 Try.underlying2 (by kernel_rfl) h
end Go.Proofs.Ytobbhflajkhcdaa
