/- What an argument that came in reads as, in the words of the walks. -/
import Derived.Test.YtkhbimdahjkgoaaKit
import Derived.Test.YtkhbimdahjkgoaaNodes
import Derived.Deep.Slices
import Derived.Deep.SlicePairs
namespace Go.Proofs.Ytkhbimdahjkgoaa
open Go.RowKit Go.ChangeShapes Go.WideShapes Go.ChangeAt Go.Deep

section
variable {H : Type} {enc : TypeId × Value → H} {P : Program} {W : World}

theorem open_Ints {t e : TypeId} (ht : P.underlying t = some (.slice e)) (he : P.underlying e = some (.int .i64)) (hc : P.cellsOf e = 1) {a : Option Addr} {len cap : Nat} {d : DataW H} {p : List MemPlace}
    (h : DataW.Trod enc P W 0 (fun _ => true) true t (.slice a len cap) d p) : ∃ xs, Ints W (.slice a len cap) xs ∧ ∀ x ∈ xs, (Lit.int .i64 x).wf = true := by
  obtain ⟨fuel, hf⟩ := h
  rcases open_ints ht he hc hf with ⟨hcs, _⟩ | ⟨x, l, c, zs, hcs, _, hl, hm, hz, _, hcell, hwz⟩
  · simp [Value.cells] at hcs
    obtain ⟨rfl, rfl, rfl⟩ := hcs
    exact ⟨[], ⟨rfl, by simp, none, 0, 0, 0, rfl, Nat.le_refl _, by simp, by simp⟩, by simp⟩
  · simp [Value.cells] at hcs
    obtain ⟨rfl, rfl, rfl⟩ := hcs
    simp only [if_true] at hz
    refine ⟨zs.take len, ?_, fun y hy => hwz y (List.mem_of_mem_take hy)⟩
    have hlen : (zs.take len).length = len := by rw [List.length_take]; omega
    obtain ⟨b, o, s⟩ := x
    rcases Nat.eq_zero_or_pos len with h0 | h0
    · subst h0
      simp only [List.take_zero]
      exact ⟨rfl, by simp, _, cap, 0, 0, rfl, hl, by simp, by simp⟩
    · have h1 := hcell 0 (by omega)
      have hs : s = none := by simpa [Addr.add] using World.cell?_spot h1
      subst hs
      refine ⟨by simp, by rw [hlen]; omega, some ⟨b, o, none⟩, cap, b, o, by rw [hlen], by rw [hlen]; exact hl, fun _ => rfl, fun i u hu => ?_⟩
      have hi : i < len := by
        have := (List.getElem?_eq_some_iff.1 hu).1
        rw [List.length_map, hlen] at this
        exact this
      have h2 := hcell i (by omega)
      rw [Addr.add_lit] at h2
      rw [h2, ← hu]
      simp [hi, List.getD, show i < zs.length by omega]

theorem open_Nodes {t e e2 : TypeId} {f0 f1 : Field} (ht : P.underlying t = some (.slice e)) (he : P.underlying e = some (.struct #[f0, f1])) (hi : P.underlying e2 = some (.int .i64))
    (ce : P.cellsOf e = 2) (ci : P.cellsOf e2 = 1) (t0 : f0.type = e2) (t1 : f1.type = e2) (o0 : f0.offset = 0) (o1 : f1.offset = 1) {a : Option Addr} {len cap : Nat} {d : DataW H} {p : List MemPlace}
    (h : DataW.Trod enc P W 0 (fun _ => true) true t (.slice a len cap) d p) : ∃ ns, Nodes W (.slice a len cap) ns := by
  obtain ⟨fuel, hf⟩ := h
  rcases open_slice_pairs ht he ce o0 o1 (by rw [t0]; exact ci) (by rw [t1]; exact ci) hf with ⟨hcs, _⟩ | ⟨x, l, c, m, n, V0, V1, D0, D1, P0, P1, hcs, _, hl, hm, hmm, _, hcell⟩
  · simp [Value.cells] at hcs
    obtain ⟨rfl, rfl, rfl⟩ := hcs
    exact ⟨[], rfl, by simp, none, 0, 0, 0, rfl, Nat.le_refl _, by simp, by simp [cellsN]⟩
  · simp [Value.cells] at hcs
    obtain ⟨rfl, rfl, rfl⟩ := hcs
    simp only [if_true] at hmm
    subst hmm
    have hv : ∀ i, i < len → V0 i = .int .i64 (intOf (V0 i)) ∧ V1 i = .int .i64 (intOf (V1 i)) := by
      intro i hi'
      obtain ⟨_, _, h2, h3⟩ := hcell i (by omega)
      rw [t0] at h2
      rw [t1] at h3
      obtain ⟨z, e0, _, _⟩ := DataW.trod_int hi h2
      obtain ⟨z', e1, _, _⟩ := DataW.trod_int hi h3
      simp at e0 e1
      rw [e0, e1]
      exact ⟨rfl, rfl⟩
    have hlen : ((List.range len).map fun i => (intOf (V0 i), intOf (V1 i))).length = len := by simp
    refine ⟨(List.range len).map fun i => (intOf (V0 i), intOf (V1 i)), by rw [cellsN_length], by rw [hlen]; omega, ?_⟩
    obtain ⟨b, o, s⟩ := x
    rcases Nat.eq_zero_or_pos len with h0 | h0
    · subst h0
      exact ⟨_, m, 0, 0, rfl, by simp, by simp, by simp [cellsN]⟩
    · have h1 := (hcell 0 (by omega)).1
      have hs : s = none := by simpa [Addr.add] using World.cell?_spot h1
      subst hs
      refine ⟨some ⟨b, o, none⟩, m, b, o, by rw [hlen], by rw [hlen]; exact hl, fun _ => rfl, fun i u hu => ?_⟩
      have hi' : i < len * 2 := by
        have := (List.getElem?_eq_some_iff.1 hu).1
        rw [cellsN_length, hlen] at this
        exact this
      have hk : ((List.range len).map fun i => (intOf (V0 i), intOf (V1 i)))[i / 2]? = some (intOf (V0 (i / 2)), intOf (V1 (i / 2))) := by
        simp [show i / 2 < len by omega]
      have hg := cellsN_get _ _ _ hk
      have hc := hcell (i / 2) (by omega)
      have hvv := hv (i / 2) (by omega)
      rw [Addr.add_lit, Addr.add_lit] at hc
      rcases Nat.mod_two_eq_zero_or_one i with h2 | h2
      · have e : i / 2 * 2 = i := by omega
        rw [e] at hg hc
        rw [hg.1] at hu
        rw [hc.1, hvv.1, ← hu]
      · have e : i / 2 * 2 + 1 = i := by omega
        rw [e] at hg hc
        rw [hg.2] at hu
        rw [hc.2.1, hvv.2, ← hu]
end
end Go.Proofs.Ytkhbimdahjkgoaa
