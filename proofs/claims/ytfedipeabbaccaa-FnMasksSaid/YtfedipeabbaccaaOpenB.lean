/- What an argument that is a list of bytes reads as, in the words of the walks. -/
import Derived.Test.YtfedipeabbaccaaDraw
import Derived.OpenShut
import Derived.ProofKit
namespace Go.Proofs.Ytfedipeabbaccaa
open Go.RowKit Go.ChangeShapes Go.WideShapes Go.ChangeAt

section
variable {H : Type} {enc : TypeId × Value → H} {P : Program} {W : World}
theorem open_Bytes {t e : TypeId} (ht : P.underlying t = some (.slice e)) (he : P.underlying e = some (.int .u8)) (hc : P.cellsOf e = 1) {a : Option Addr} {len cap : Nat} {d : DataW H} {p : List MemPlace}
    (h : DataW.Trod enc P W 0 (fun _ => true) true t (.slice a len cap) d p) : ∃ xs, Bytes W (.slice a len cap) xs := by
  obtain ⟨fuel, hf⟩ := h
  rcases open_ints ht he hc hf with ⟨hcs, _⟩ | ⟨x, l, c, zs, hcs, _, hl, hm, hz, _, hcell, hwz⟩
  · simp [Value.cells] at hcs
    obtain ⟨rfl, rfl, rfl⟩ := hcs
    exact ⟨[], ⟨rfl, by simp, none, 0, 0, 0, rfl, Nat.le_refl _, by simp, by simp⟩, by simp⟩
  · simp [Value.cells] at hcs
    obtain ⟨rfl, rfl, rfl⟩ := hcs
    simp only [if_true] at hz
    have hb : ∀ y ∈ zs.take len, 0 ≤ y ∧ y < 256 := fun y hy => by
      have h1 := hwz y (List.mem_of_mem_take hy)
      simp [Lit.wf, IntKind.min, IntKind.max, IntKind.signed, IntKind.bits] at h1
      omega
    have hlen : (zs.take len).length = len := by rw [List.length_take]; omega
    refine ⟨zs.take len, ?_, hb⟩
    obtain ⟨b, o, s⟩ := x
    rcases Nat.eq_zero_or_pos len with h0 | h0
    · subst h0
      simp only [List.take_zero]
      exact ⟨rfl, by simp, _, cap, 0, 0, rfl, hl, by simp, by simp⟩
    · have h1 := hcell 0 (by omega)
      have hs : s = none := by simpa [Addr.add] using World.cell?_spot h1
      subst hs
      refine ⟨by simp, by rw [hlen]; omega, some ⟨b, o, none⟩, cap, b, o, by rw [hlen], by rw [hlen]; exact hl, fun _ => rfl, fun i u hu => ?_⟩
      have hi : i < len := by
        have := (List.getElem?_eq_some_iff.1 hu).1
        rw [List.length_map, hlen] at this
        exact this
      have h2 := hcell i (by omega)
      rw [Addr.add_lit] at h2
      rw [h2, ← hu]
      simp [hi, List.getD, show i < zs.length by omega]
end
set_option maxRecDepth 100000 in
theorem open_bytes_arg {H : Type} {enc : TypeId × Value → H} {W : World} {r : Reach} {b0 : Nat} {v : Value} {d : DataW H} {p : List MemPlace} (hv : Value.okWide Try.prog W r b0 37 v) (h : DataW.Trod enc Try.prog W 0 (fun _ => true) true 37 v d p) : ∃ xs, Bytes W v xs := by
  obtain ⟨a, len, cap, rfl⟩ := okWide_slice Try.underlying37 hv
  exact open_Bytes Try.underlying37 Try.underlying5 (by kernel_rfl) h
end Go.Proofs.Ytfedipeabbaccaa
