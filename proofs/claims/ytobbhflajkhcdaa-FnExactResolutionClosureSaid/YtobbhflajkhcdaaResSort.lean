/- slices.Sort and slices.Compact at a row of integers of one's own, by the shelf's contracts. -/
import Derived.Test.YtobbhflajkhcdaaRes
import Derived.Test.YtobbhflajkhcdaaShelf
import Derived.Lib.OwnBridge
import Derived.Lib.RowBridge
import Derived.Sort.OwnSortedInts
import Derived.Test.YtobbhflajkhcdaaResMath
namespace Go.Proofs.Ytobbhflajkhcdaa
open Go.RowKit Go.Sort Go.Lib

theorem sortI_any (B : Nat) (v : Value) (xs : List Int) (w : World) (h : w.ownsRow B 2 1 v xs.length (xs.map (Value.int .i64))) (hn : xs.length < 4611686018427387904) :
    Calls Try.prog 50 #[v] w fun e w' => e = .returned (.tuple #[]) ∧ w'.ownsRow B 2 1 v xs.length ((sortI xs).map (Value.int .i64)) ∧ w.grownBy w' v.ownBlock := by
  have hrow := h
  rcases h.2 with ⟨rfl, h0⟩ | ⟨g, cap, cur, rfl, hbase, hb, h1, h2, h3, h4⟩
  · have hx : xs = [] := List.eq_nil_of_length_eq_zero h0
    subst hx
    refine (sh_slices_Sort_int_none none 0 w).mono ?_
    rintro e w' ⟨rfl, rfl⟩
    exact ⟨rfl, by simpa [sortI] using hrow, World.grownBy.refl _ _⟩
  · have hH : Holds (Value.int .i64) w g 0 xs.toArray := holds_of_blockI hb (by simpa using h4)
    refine (sh_slices_Sort_int g 0 cap xs w hH (Array.getElem?_eq_some_iff.1 hb).1 hn).mono ?_
    rintro e w' ⟨rfl, nn, os, rfl⟩
    exact ⟨rfl, ownsRow_sortedI (List.length_mergeSort xs) hbase hb h1 h2 h3, grownBy_sortedI _⟩
theorem compactI_any (B : Nat) (v : Value) (xs : List Int) (w : World) (h : w.ownsRow B 2 1 v xs.length (xs.map (Value.int .i64))) (hn : xs.length < 4611686018427387904) :
    Calls Try.prog 51 #[v] w fun e w' => ∃ v', e = .returned v' ∧ w'.ownsRow B 2 1 v' (Lib.compact xs).length ((Lib.compact xs).map (Value.int .i64)) ∧ w.grownBy w' v.ownBlock := by
  have hrow := h
  rcases h.2 with ⟨rfl, h0⟩ | ⟨g, cap, cur, rfl, hbase, hb, h1, h2, h3, h4⟩
  · have hx : xs = [] := List.eq_nil_of_length_eq_zero h0
    subst hx
    refine (sh_slices_Compact_int_empty none 0 w).mono ?_
    rintro e w' ⟨rfl, rfl⟩
    have e0 : Lib.compact ([] : List Int) = [] := List.eq_nil_of_length_eq_zero (Nat.le_zero.1 (Lib.compact_length_le ([] : List Int)))
    exact ⟨_, rfl, by rw [e0]; exact hrow, World.grownBy.refl _ _⟩
  · have hH : Holds (Value.int .i64) w g 0 xs.toArray := holds_of_blockI hb (by simpa using h4)
    have hle := Lib.compact_length_le xs
    refine (sh_slices_Compact_int g 0 cap xs w hH (by omega) h1).mono ?_
    rintro e w' ⟨rfl, q, rfl⟩
    have hc := Lib.ownsRow_putRow (q := q) (k := (Lib.compact xs).length) (ys := Lib.compact xs ++ List.replicate (xs.length - (Lib.compact xs).length) 0) hrow (by simp; omega) (by omega)
    rw [List.take_left] at hc
    refine ⟨_, rfl, hc, ?_⟩
    have hg := grownBy_sortedI (w := w) (g := g) (n := q) (os := #[]) (Lib.compact xs ++ List.replicate (xs.length - (Lib.compact xs).length) 0).toArray
    rw [grow_empty] at hg
    exact hg
end Go.Proofs.Ytobbhflajkhcdaa
