/- What an argument that came in reads as, in the words of the walks. -/
import Derived.Test.YtobbhflajkhcdaaKit
import Derived.Deep.Slices
import Derived.Deep.SlicePairs
namespace Go.Proofs.Ytobbhflajkhcdaa
open Go.RowKit Go.ChangeShapes Go.WideShapes Go.ChangeAt Go.Deep

section
variable {H : Type} {enc : TypeId × Value → H} {P : Program} {W : World}

theorem open_Ints {t e : TypeId} (ht : P.underlying t = some (.slice e)) (he : P.underlying e = some (.int .i64)) (hc : P.cellsOf e = 1) {a : Option Addr} {len cap : Nat} {d : DataW H} {p : List MemPlace}
    (h : DataW.Trod enc P W 0 (fun _ => true) true t (.slice a len cap) d p) : ∃ xs, Ints W (.slice a len cap) xs ∧ ∀ x ∈ xs, (Lit.int .i64 x).wf = true := by
  obtain ⟨fuel, hf⟩ := h
  rcases open_ints ht he hc hf with ⟨hcs, _⟩ | ⟨x, l, c, zs, hcs, _, hl, hm, hz, _, hcell, hwz⟩
  · simp [Value.cells] at hcs
    obtain ⟨rfl, rfl, rfl⟩ := hcs
    exact ⟨[], ⟨rfl, by simp, none, 0, 0, 0, rfl, Nat.le_refl _, by simp, by simp⟩, by simp⟩
  · simp [Value.cells] at hcs
    obtain ⟨rfl, rfl, rfl⟩ := hcs
    simp only [if_true] at hz
    refine ⟨zs.take len, ?_, fun y hy => hwz y (List.mem_of_mem_take hy)⟩
    have hlen : (zs.take len).length = len := by rw [List.length_take]; omega
    obtain ⟨b, o, s⟩ := x
    rcases Nat.eq_zero_or_pos len with h0 | h0
    · subst h0
      simp only [List.take_zero]
      exact ⟨rfl, by simp, _, cap, 0, 0, rfl, hl, by simp, by simp⟩
    · have h1 := hcell 0 (by omega)
      have hs : s = none := by simpa [Addr.add] using World.cell?_spot h1
      subst hs
      refine ⟨by simp, by rw [hlen]; omega, some ⟨b, o, none⟩, cap, b, o, by rw [hlen], by rw [hlen]; exact hl, fun _ => rfl, fun i u hu => ?_⟩
      have hi : i < len := by
        have := (List.getElem?_eq_some_iff.1 hu).1
        rw [List.length_map, hlen] at this
        exact this
      have h2 := hcell i (by omega)
      rw [Addr.add_lit] at h2
      rw [h2, ← hu]
      simp [hi, List.getD, show i < zs.length by omega]

end
end Go.Proofs.Ytobbhflajkhcdaa
