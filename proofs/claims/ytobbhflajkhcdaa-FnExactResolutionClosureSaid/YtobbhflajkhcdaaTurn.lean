/- Worlds that differ in an interval of blocks only. -/
import Derived.Test.YtobbhflajkhcdaaKit
namespace Go.Proofs.Ytobbhflajkhcdaa
open Go.RowKit

/-- Blocks outside lo .. hi are as they were. -/
structure Turned (lo hi : Nat) (w w' : World) : Prop where
  os : w'.os = w.os
  tape : w'.tape = w.tape
  output : w'.output = w.output
  size : w.heap.size ≤ w'.heap.size
  block : ∀ k, k < w.heap.size → (k < lo ∨ hi ≤ k) → w'.heap[k]? = w.heap[k]?

theorem Turned.refl (lo hi : Nat) (w : World) : Turned lo hi w w := ⟨rfl, rfl, rfl, Nat.le_refl _, fun _ _ _ => rfl⟩
theorem Turned.trans {lo hi : Nat} {a b c : World} (h : Turned lo hi a b) (k : Turned lo hi b c) : Turned lo hi a c :=
  ⟨k.os.trans h.os, k.tape.trans h.tape, k.output.trans h.output, Nat.le_trans h.size k.size, fun i hi h2 => (k.block i (Nat.lt_of_lt_of_le hi h.size) h2).trans (h.block i hi h2)⟩
theorem Turned.below {lo hi K : Nat} {w w' : World} (h : Turned lo hi w w') (hk : K ≤ lo) (hs : K ≤ w.heap.size) : Below K w w' :=
  ⟨h.os, h.tape, h.output, h.size, fun k hk' => h.block k (by omega) (.inl (by omega))⟩
theorem Turned.of_grown {lo hi : Nat} {w w' : World} {row : Option Nat} (hg : w.grownBy w' row) (hr : ∀ k, row = some k → lo ≤ k ∧ k < hi) : Turned lo hi w w' :=
  ⟨hg.os, hg.tape, hg.output, hg.size, fun k hk h2 => hg.block k hk (fun e => by have := hr k e.symm; omega)⟩

theorem row_same {w w' : World} {B : Nat} {e : TypeId} {s : Nat} {v : Value} {n : Nat} {xs : List Value} (h : w.ownsRow B e s v n xs) (hb : ∀ k, v.ownBlock = some k → B ≤ k → k < w.heap.size → w'.heap[k]? = w.heap[k]?) : w'.ownsRow B e s v n xs := by
  refine ⟨h.1, ?_⟩
  rcases h.2 with h2 | ⟨g, cap, cur, rfl, hB, hg, r⟩
  · exact .inl h2
  · refine .inr ⟨g, cap, cur, rfl, hB, ?_, r⟩
    rw [hb g rfl hB (Array.getElem?_eq_some_iff.1 hg).1]
    exact hg

theorem turned_row {lo hi B H : Nat} {w w' : World} {e : TypeId} {s : Nat} {v : Value} {n : Nat} {xs : List Value} (h : w.ownsRow B e s v n xs) (hl : ∀ k, v.ownBlock = some k → k < H) (ht : Turned lo hi w w') (hd : H ≤ lo ∨ hi ≤ B) : w'.ownsRow B e s v n xs :=
  row_same h fun k hk hB hlt => ht.block k hlt (by have := hl k hk; omega)

theorem reads_same {w w' : World} {k : Nat} {v : Value} {n : Nat} {cs : List Value} (h : Reads w k v n cs) (hb : ∀ b, v.ownBlock = some b → b < w.heap.size → w'.heap[b]? = w.heap[b]?) : Reads w' k v n cs := by
  obtain ⟨h1, h2, a, c, b, o, rfl, hc, ha, hcell⟩ := h
  refine ⟨h1, h2, a, c, b, o, rfl, hc, ha, fun i u hu => ?_⟩
  have hn : 0 < n := by
    rcases Nat.eq_zero_or_pos n with h0 | h0
    · have hi := (List.getElem?_eq_some_iff.1 hu).1
      rw [h1, h0] at hi; omega
    · exact h0
  obtain rfl := ha hn
  have h3 := hcell i u hu
  exact (World.cell?_of_block (hb b rfl (World.block_lt_of_cell? w _ h3))).trans h3

end Go.Proofs.Ytobbhflajkhcdaa
