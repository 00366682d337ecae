/- What an argument that is a list of bytes reads as, in the words of the walks. -/
import Derived.Test.YtdpnkojchimmfaaQBDraw
import Derived.OpenShut
import Derived.ProofKit
import Derived.Test.YtdpnkojchimmfaaQBKit
import Derived.Shelf.GgClosure.Gives

namespace Go.Proofs.Ytdpnkojchimmfaa
open Go.RowKit Go.ChangeShapes Go.WideShapes Go.ChangeAt

section
variable {H : Type} {enc : TypeId × Value → H} {P : Program} {W : World}
theorem open_Bytes {t e : TypeId} (ht : P.underlying t = some (.slice e)) (he : P.underlying e = some (.int .u8)) (hc : P.cellsOf e = 1) {a : Option Addr} {len cap : Nat} {d : DataW H} {p : List MemPlace}
    (h : DataW.Trod enc P W 0 (fun _ => true) true t (.slice a len cap) d p) : ∃ xs, Bytes W (.slice a len cap) xs := by
  obtain ⟨fuel, hf⟩ := h
  rcases open_ints ht he hc hf with ⟨hcs, _⟩ | ⟨x, l, c, zs, hcs, _, hl, hm, hz, _, hcell, hwz⟩
  · simp [Value.cells] at hcs
    obtain ⟨rfl, rfl, rfl⟩ := hcs
    exact ⟨[], ⟨rfl, by simp, none, 0, 0, 0, rfl, Nat.le_refl _, by simp, by simp⟩, by simp⟩
  · simp [Value.cells] at hcs
    obtain ⟨rfl, rfl, rfl⟩ := hcs
    simp only [if_true] at hz
    have hb : ∀ y ∈ zs.take len, 0 ≤ y ∧ y < 256 := fun y hy => by
      have h1 := hwz y (List.mem_of_mem_take hy)
      simp [Lit.wf, IntKind.min, IntKind.max, IntKind.signed, IntKind.bits] at h1
      omega
    have hlen : (zs.take len).length = len := by rw [List.length_take]; omega
    refine ⟨zs.take len, ?_, hb⟩
    obtain ⟨b, o, s⟩ := x
    rcases Nat.eq_zero_or_pos len with h0 | h0
    · subst h0
      simp only [List.take_zero]
      exact ⟨rfl, by simp, _, cap, 0, 0, rfl, hl, by simp, by simp⟩
    · have h1 := hcell 0 (by omega)
      have hs : s = none := by simpa [Addr.add] using World.cell?_spot h1
      subst hs
      refine ⟨by simp, by rw [hlen]; omega, some ⟨b, o, none⟩, cap, b, o, by rw [hlen], by rw [hlen]; exact hl, fun _ => rfl, fun i u hu => ?_⟩
      have hi : i < len := by
        have := (List.getElem?_eq_some_iff.1 hu).1
        rw [List.length_map, hlen] at this
        exact this
      have h2 := hcell i (by omega)
      rw [Addr.add_lit] at h2
      rw [h2, ← hu]
      simp [hi, List.getD, show i < zs.length by omega]
end
set_option maxRecDepth 100000 in
theorem open_bytes_arg {H : Type} {enc : TypeId × Value → H} {W : World} {r : Reach} {b0 : Nat} {v : Value} {d : DataW H} {p : List MemPlace} (hv : Value.okWide Try.prog W r b0 34 v) (h : DataW.Trod enc Try.prog W 0 (fun _ => true) true 34 v d p) : ∃ xs, Bytes W v xs := by
  obtain ⟨a, len, cap, rfl⟩ := okWide_slice Try.underlying34 hv
  exact open_Bytes Try.underlying34 Try.underlying5 (by kernel_rfl) h
end Go.Proofs.Ytdpnkojchimmfaa

/- What is asked of a function value that is handed to the library, and small facts on 'any' and 'all' of a list. -/
namespace Go.Proofs.Ytdpnkojchimmfaa
open Go.RowKit

/-- What is asked of a predicate: called in whatever world in which all that lay in w lies unturned, it answers p, and turns nothing. -/
def Pred {α : Type} (P : Program) (g : Nat) (lb : Array Value) (enc : α → Value) (xs : List α) (p : α → Bool) (w : World) : Prop :=
  ∀ W x, x ∈ xs → Below w.heap.size w W → w.heap.size ≤ W.heap.size → Calls P g (#[enc x] ++ lb) W fun e W' => e = .returned (.bool (p x)) ∧ Below W.heap.size W W'

theorem any_no {α : Type} {xs : List α} {p : α → Bool} (h : ∀ i x, i < xs.length → xs[i]? = some x → p x = false) : xs.any p = false := by
  rw [List.any_eq_false]
  intro x hx
  obtain ⟨i, hi, rfl⟩ := List.mem_iff_getElem.1 hx
  have := h i xs[i] hi (by simp [hi])
  rw [this]
  exact Bool.false_ne_true

theorem any_yes {α : Type} {xs : List α} {p : α → Bool} {k : Nat} {x : α} (hx : xs[k]? = some x) (h : p x = true) : xs.any p = true := by
  rw [List.any_eq_true]
  exact ⟨x, List.mem_of_getElem? hx, h⟩

theorem all_bad {α : Type} {xs : List α} {p : α → Bool} {k : Nat} {x : α} (hx : xs[k]? = some x) (h : p x = false) : xs.all p = false := by
  rw [List.all_eq_false]
  exact ⟨x, List.mem_of_getElem? hx, by simp [h]⟩

theorem all_good {α : Type} {xs : List α} {p : α → Bool} (h : ∀ i x, i < xs.length → xs[i]? = some x → p x = true) : xs.all p = true := by
  rw [List.all_eq_true]
  intro x hx
  obtain ⟨i, hi, rfl⟩ := List.mem_iff_getElem.1 hx
  exact h i _ hi (by simp)

theorem not_any {α : Type} (xs : List α) (p : α → Bool) : (!(xs.any fun x => !p x)) = xs.all p := by
  rw [List.not_any_eq_all_not]; simp

end Go.Proofs.Ytdpnkojchimmfaa
