/- What an argument that came in reads as, in the words of the walks. -/
import Derived.Test.YtmhkcicjbgifnaaGreatMKit
import Derived.Test.YtmhkcicjbgifnaaGreatMNodes
import Derived.Deep.Slices
import Derived.Deep.SlicePairs
import Derived.Shelf.GgClosure.Gives

namespace Go.Proofs.YtmhkcicjbgifnaaGreat
open Go.RowKit Go.ChangeShapes Go.WideShapes Go.ChangeAt Go.Deep

section
variable {H : Type} {enc : TypeId × Value → H} {P : Program} {W : World}

theorem open_Ints {t e : TypeId} (ht : P.underlying t = some (.slice e)) (he : P.underlying e = some (.int .i64)) (hc : P.cellsOf e = 1) {a : Option Addr} {len cap : Nat} {d : DataW H} {p : List MemPlace}
    (h : DataW.Trod enc P W 0 (fun _ => true) true t (.slice a len cap) d p) : ∃ xs, Ints W (.slice a len cap) xs ∧ ∀ x ∈ xs, (Lit.int .i64 x).wf = true := by
  obtain ⟨fuel, hf⟩ := h
  rcases open_ints ht he hc hf with ⟨hcs, _⟩ | ⟨x, l, c, zs, hcs, _, hl, hm, hz, _, hcell, hwz⟩
  · simp [Value.cells] at hcs
    obtain ⟨rfl, rfl, rfl⟩ := hcs
    exact ⟨[], ⟨rfl, by simp, none, 0, 0, 0, rfl, Nat.le_refl _, by simp, by simp⟩, by simp⟩
  · simp [Value.cells] at hcs
    obtain ⟨rfl, rfl, rfl⟩ := hcs
    simp only [if_true] at hz
    refine ⟨zs.take len, ?_, fun y hy => hwz y (List.mem_of_mem_take hy)⟩
    have hlen : (zs.take len).length = len := by rw [List.length_take]; omega
    obtain ⟨b, o, s⟩ := x
    rcases Nat.eq_zero_or_pos len with h0 | h0
    · subst h0
      simp only [List.take_zero]
      exact ⟨rfl, by simp, _, cap, 0, 0, rfl, hl, by simp, by simp⟩
    · have h1 := hcell 0 (by omega)
      have hs : s = none := by simpa [Addr.add] using World.cell?_spot h1
      subst hs
      refine ⟨by simp, by rw [hlen]; omega, some ⟨b, o, none⟩, cap, b, o, by rw [hlen], by rw [hlen]; exact hl, fun _ => rfl, fun i u hu => ?_⟩
      have hi : i < len := by
        have := (List.getElem?_eq_some_iff.1 hu).1
        rw [List.length_map, hlen] at this
        exact this
      have h2 := hcell i (by omega)
      rw [Addr.add_lit] at h2
      rw [h2, ← hu]
      simp [hi, List.getD, show i < zs.length by omega]

theorem open_Nodes {t e e2 : TypeId} {f0 f1 : Field} (ht : P.underlying t = some (.slice e)) (he : P.underlying e = some (.struct #[f0, f1])) (hi : P.underlying e2 = some (.int .i64))
    (ce : P.cellsOf e = 2) (ci : P.cellsOf e2 = 1) (t0 : f0.type = e2) (t1 : f1.type = e2) (o0 : f0.offset = 0) (o1 : f1.offset = 1) {a : Option Addr} {len cap : Nat} {d : DataW H} {p : List MemPlace}
    (h : DataW.Trod enc P W 0 (fun _ => true) true t (.slice a len cap) d p) : ∃ ns, Nodes W (.slice a len cap) ns := by
  obtain ⟨fuel, hf⟩ := h
  rcases open_slice_pairs ht he ce o0 o1 (by rw [t0]; exact ci) (by rw [t1]; exact ci) hf with ⟨hcs, _⟩ | ⟨x, l, c, m, n, V0, V1, D0, D1, P0, P1, hcs, _, hl, hm, hmm, _, hcell⟩
  · simp [Value.cells] at hcs
    obtain ⟨rfl, rfl, rfl⟩ := hcs
    exact ⟨[], rfl, by simp, none, 0, 0, 0, rfl, Nat.le_refl _, by simp, by simp [cellsN]⟩
  · simp [Value.cells] at hcs
    obtain ⟨rfl, rfl, rfl⟩ := hcs
    simp only [if_true] at hmm
    subst hmm
    have hv : ∀ i, i < len → V0 i = .int .i64 (intOf (V0 i)) ∧ V1 i = .int .i64 (intOf (V1 i)) := by
      intro i hi'
      obtain ⟨_, _, h2, h3⟩ := hcell i (by omega)
      rw [t0] at h2
      rw [t1] at h3
      obtain ⟨z, e0, _, _⟩ := DataW.trod_int hi h2
      obtain ⟨z', e1, _, _⟩ := DataW.trod_int hi h3
      simp at e0 e1
      rw [e0, e1]
      exact ⟨rfl, rfl⟩
    have hlen : ((List.range len).map fun i => (intOf (V0 i), intOf (V1 i))).length = len := by simp
    refine ⟨(List.range len).map fun i => (intOf (V0 i), intOf (V1 i)), by rw [cellsN_length], by rw [hlen]; omega, ?_⟩
    obtain ⟨b, o, s⟩ := x
    rcases Nat.eq_zero_or_pos len with h0 | h0
    · subst h0
      exact ⟨_, m, 0, 0, rfl, by simp, by simp, by simp [cellsN]⟩
    · have h1 := (hcell 0 (by omega)).1
      have hs : s = none := by simpa [Addr.add] using World.cell?_spot h1
      subst hs
      refine ⟨some ⟨b, o, none⟩, m, b, o, by rw [hlen], by rw [hlen]; exact hl, fun _ => rfl, fun i u hu => ?_⟩
      have hi' : i < len * 2 := by
        have := (List.getElem?_eq_some_iff.1 hu).1
        rw [cellsN_length, hlen] at this
        exact this
      have hk : ((List.range len).map fun i => (intOf (V0 i), intOf (V1 i)))[i / 2]? = some (intOf (V0 (i / 2)), intOf (V1 (i / 2))) := by
        simp [show i / 2 < len by omega]
      have hg := cellsN_get _ _ _ hk
      have hc := hcell (i / 2) (by omega)
      have hvv := hv (i / 2) (by omega)
      rw [Addr.add_lit, Addr.add_lit] at hc
      rcases Nat.mod_two_eq_zero_or_one i with h2 | h2
      · have e : i / 2 * 2 = i := by omega
        rw [e] at hg hc
        rw [hg.1] at hu
        rw [hc.1, hvv.1, ← hu]
      · have e : i / 2 * 2 + 1 = i := by omega
        rw [e] at hg hc
        rw [hg.2] at hu
        rw [hc.2.1, hvv.2, ← hu]
end
end Go.Proofs.YtmhkcicjbgifnaaGreat

/- Worlds that differ in an interval of blocks only. -/
namespace Go.Proofs.YtmhkcicjbgifnaaGreat
open Go.RowKit

/-- Blocks outside lo .. hi are as they were. -/
structure Turned (lo hi : Nat) (w w' : World) : Prop where
  os : w'.os = w.os
  tape : w'.tape = w.tape
  output : w'.output = w.output
  size : w.heap.size ≤ w'.heap.size
  block : ∀ k, k < w.heap.size → (k < lo ∨ hi ≤ k) → w'.heap[k]? = w.heap[k]?

theorem Turned.refl (lo hi : Nat) (w : World) : Turned lo hi w w := ⟨rfl, rfl, rfl, Nat.le_refl _, fun _ _ _ => rfl⟩
theorem Turned.trans {lo hi : Nat} {a b c : World} (h : Turned lo hi a b) (k : Turned lo hi b c) : Turned lo hi a c :=
  ⟨k.os.trans h.os, k.tape.trans h.tape, k.output.trans h.output, Nat.le_trans h.size k.size, fun i hi h2 => (k.block i (Nat.lt_of_lt_of_le hi h.size) h2).trans (h.block i hi h2)⟩
theorem Turned.below {lo hi K : Nat} {w w' : World} (h : Turned lo hi w w') (hk : K ≤ lo) (hs : K ≤ w.heap.size) : Below K w w' :=
  ⟨h.os, h.tape, h.output, h.size, fun k hk' => h.block k (by omega) (.inl (by omega))⟩
theorem Turned.of_grown {lo hi : Nat} {w w' : World} {row : Option Nat} (hg : w.grownBy w' row) (hr : ∀ k, row = some k → lo ≤ k ∧ k < hi) : Turned lo hi w w' :=
  ⟨hg.os, hg.tape, hg.output, hg.size, fun k hk h2 => hg.block k hk (fun e => by have := hr k e.symm; omega)⟩

theorem row_same {w w' : World} {B : Nat} {e : TypeId} {s : Nat} {v : Value} {n : Nat} {xs : List Value} (h : w.ownsRow B e s v n xs) (hb : ∀ k, v.ownBlock = some k → B ≤ k → k < w.heap.size → w'.heap[k]? = w.heap[k]?) : w'.ownsRow B e s v n xs := by
  refine ⟨h.1, ?_⟩
  rcases h.2 with h2 | ⟨g, cap, cur, rfl, hB, hg, r⟩
  · exact .inl h2
  · refine .inr ⟨g, cap, cur, rfl, hB, ?_, r⟩
    rw [hb g rfl hB (Array.getElem?_eq_some_iff.1 hg).1]
    exact hg

theorem turned_row {lo hi B H : Nat} {w w' : World} {e : TypeId} {s : Nat} {v : Value} {n : Nat} {xs : List Value} (h : w.ownsRow B e s v n xs) (hl : ∀ k, v.ownBlock = some k → k < H) (ht : Turned lo hi w w') (hd : H ≤ lo ∨ hi ≤ B) : w'.ownsRow B e s v n xs :=
  row_same h fun k hk hB hlt => ht.block k hlt (by have := hl k hk; omega)

theorem reads_same {w w' : World} {k : Nat} {v : Value} {n : Nat} {cs : List Value} (h : Reads w k v n cs) (hb : ∀ b, v.ownBlock = some b → b < w.heap.size → w'.heap[b]? = w.heap[b]?) : Reads w' k v n cs := by
  obtain ⟨h1, h2, a, c, b, o, rfl, hc, ha, hcell⟩ := h
  refine ⟨h1, h2, a, c, b, o, rfl, hc, ha, fun i u hu => ?_⟩
  have hn : 0 < n := by
    rcases Nat.eq_zero_or_pos n with h0 | h0
    · have hi := (List.getElem?_eq_some_iff.1 hu).1
      rw [h1, h0] at hi; omega
    · exact h0
  obtain rfl := ha hn
  have h3 := hcell i u hu
  exact (World.cell?_of_block (hb b rfl (World.block_lt_of_cell? w _ h3))).trans h3

end Go.Proofs.YtmhkcicjbgifnaaGreat

/- What is asked of a function value that is handed to the library, and small facts on 'any' and 'all' of a list. -/
namespace Go.Proofs.YtmhkcicjbgifnaaGreat
open Go.RowKit

/-- What is asked of a predicate: called in whatever world in which all that lay in w lies unturned, it answers p, and turns nothing. -/
def Pred {α : Type} (P : Program) (g : Nat) (lb : Array Value) (enc : α → Value) (xs : List α) (p : α → Bool) (w : World) : Prop :=
  ∀ W x, x ∈ xs → Below w.heap.size w W → w.heap.size ≤ W.heap.size → Calls P g (#[enc x] ++ lb) W fun e W' => e = .returned (.bool (p x)) ∧ Below W.heap.size W W'

theorem any_no {α : Type} {xs : List α} {p : α → Bool} (h : ∀ i x, i < xs.length → xs[i]? = some x → p x = false) : xs.any p = false := by
  rw [List.any_eq_false]
  intro x hx
  obtain ⟨i, hi, rfl⟩ := List.mem_iff_getElem.1 hx
  have := h i xs[i] hi (by simp [hi])
  rw [this]
  exact Bool.false_ne_true

theorem any_yes {α : Type} {xs : List α} {p : α → Bool} {k : Nat} {x : α} (hx : xs[k]? = some x) (h : p x = true) : xs.any p = true := by
  rw [List.any_eq_true]
  exact ⟨x, List.mem_of_getElem? hx, h⟩

theorem all_bad {α : Type} {xs : List α} {p : α → Bool} {k : Nat} {x : α} (hx : xs[k]? = some x) (h : p x = false) : xs.all p = false := by
  rw [List.all_eq_false]
  exact ⟨x, List.mem_of_getElem? hx, by simp [h]⟩

theorem all_good {α : Type} {xs : List α} {p : α → Bool} (h : ∀ i x, i < xs.length → xs[i]? = some x → p x = true) : xs.all p = true := by
  rw [List.all_eq_true]
  intro x hx
  obtain ⟨i, hi, rfl⟩ := List.mem_iff_getElem.1 hx
  exact h i _ hi (by simp)

theorem not_any {α : Type} (xs : List α) (p : α → Bool) : (!(xs.any fun x => !p x)) = xs.all p := by
  rw [List.not_any_eq_all_not]; simp

end Go.Proofs.YtmhkcicjbgifnaaGreat
