/- slices.Sort and slices.Compact at a row of strings of one's own, by the shelf's contracts. -/
import Derived.Test.YtkhbimdahjkgoaaStrRow
import Derived.Test.YtkhbimdahjkgoaaShelf
import Derived.Lib.OwnBridge
import Derived.Lib.RowBridge
namespace Go.Proofs.Ytkhbimdahjkgoaa
open Go.RowKit Go.Sort Go.Lib

abbrev sortL (ss : List Bs) : List Bs := ss.mergeSort fun x y => decide (x ≤ y)
theorem sortS_any (B g cap n : Nat) (ss : List Bs) (w : World) (h : w.ownsRow B 9 1 (.slice (some ⟨g, 0, none⟩) n cap) n (ss.map encStr)) (hl : ss.length = n) (hn : n < 4611686018427387904) :
    Calls Try.prog 30 #[.slice (some ⟨g, 0, none⟩) n cap] w fun e w' => e = .returned (.tuple #[]) ∧ w'.ownsRow B 9 1 (.slice (some ⟨g, 0, none⟩) n cap) n ((sortL ss).map encStr) ∧ w.grownBy w' (some g) := by
  subst hl
  rcases h.2 with ⟨h0, _⟩ | ⟨g', cap', cur, hv, hbase, hb, h1, h2, h3, h4⟩
  · cases h0
  cases hv
  have hH : Holds encStr w g 0 ss.toArray := holds_of_block hb (by simpa using h4)
  refine (sh_slices_Sort_string g 0 cap ss w hH (Array.getElem?_eq_some_iff.1 hb).1 hn).mono ?_
  rintro e w' ⟨rfl, nn, os, rfl⟩
  exact ⟨rfl, ownsRow_sorted (List.length_mergeSort ss) hbase hb h1 h2 h3, grownBy_sorted _⟩
theorem compactS_any (B g cap n : Nat) (ss : List Bs) (w : World) (h : w.ownsRow B 9 1 (.slice (some ⟨g, 0, none⟩) n cap) n (ss.map encStr)) (hl : ss.length = n) (hn : n < 4611686018427387904) :
    Calls Try.prog 31 #[.slice (some ⟨g, 0, none⟩) n cap] w fun e w' => e = .returned (.slice (some ⟨g, 0, none⟩) (Lib.compact ss).length cap) ∧ w'.ownsRow B 9 1 (.slice (some ⟨g, 0, none⟩) (Lib.compact ss).length cap) (Lib.compact ss).length ((Lib.compact ss).map encStr) ∧ w.grownBy w' (some g) := by
  subst hl
  rcases h.2 with ⟨h0, _⟩ | ⟨g', cap', cur, hv, hbase, hb, h1, h2, h3, h4⟩
  · cases h0
  cases hv
  have hH : Holds encStr w g 0 ss.toArray := holds_of_block hb (by simpa using h4)
  have hle := Lib.compact_length_le ss
  refine (sh_slices_Compact_string g 0 cap ss w hH (by omega) h1).mono ?_
  rintro e w' ⟨rfl, q, rfl⟩
  have hc := Lib.ownsRow_putRow (q := q) (k := (Lib.compact ss).length) (ys := Lib.compact ss ++ List.replicate (ss.length - (Lib.compact ss).length) []) h (by simp; omega) (by omega)
  rw [List.take_left] at hc
  refine ⟨rfl, hc, ?_⟩
  have hg := grownBy_sorted (w := w) (g := g) (n := q) (os := #[]) (Lib.compact ss ++ List.replicate (ss.length - (Lib.compact ss).length) []).toArray
  rw [grow_empty] at hg
  exact hg
end Go.Proofs.Ytkhbimdahjkgoaa
