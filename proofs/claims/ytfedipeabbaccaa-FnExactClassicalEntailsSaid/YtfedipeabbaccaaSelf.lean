/- Lists of formulas in new memory: the substitution that maps each variable to itself. -/
import Derived.Test.YtfedipeabbaccaaLists
import Derived.Maps.AppendAt
namespace Go.Proofs.Ytfedipeabbaccaa
open Go.RowKit

/-- What is read stays where another row is written. -/
theorem nodes_grown {w w' : World} {v : Value} {ns : List Nd} {row : Option Nat} (h : Nodes w v ns) (hg : w.grownBy w' row) (hne : ∀ k, row = some k → v.ownBlock ≠ some k) : Nodes w' v ns := by
  obtain ⟨h1, h2, a, c, b, o, rfl, hc, ha, hcell⟩ := h
  refine ⟨h1, h2, a, c, b, o, rfl, hc, ha, fun i u hu => ?_⟩
  have hp : 0 < ns.length := by
    rcases Nat.eq_zero_or_pos ns.length with h0 | h0
    · rw [List.eq_nil_of_length_eq_zero h0] at hu; cases hu
    · exact h0
  obtain rfl := ha hp
  have h3 := hcell i u hu
  exact (World.cell?_of_block (hg.block b (World.block_lt_of_cell? w _ h3) fun e => hne b e.symm rfl)).trans h3

/-- A list of formulas in new memory. -/
structure OwnFs (K : Nat) (w : World) (v : Value) (ss : List Sl) : Prop where
  own : w.ownsRow K 52 1 v ss.length (ss.map slV)
  el : ∀ s ∈ ss, Nodes w (slV s) s.2
  ap : ∀ s ∈ ss, ∀ k, v.ownBlock = some k → (slV s).ownBlock ≠ some k
  lt : ∀ s ∈ ss, ∀ k, (slV s).ownBlock = some k → k < w.heap.size
  ks : K ≤ w.heap.size

theorem OwnFs.nil {K : Nat} {w : World} (h : K ≤ w.heap.size) : OwnFs K w (.slice none 0 0) [] := ⟨World.ownsRow_nil _ _ _ _, fun _ h => absurd h List.not_mem_nil, fun _ h => absurd h List.not_mem_nil, fun _ h => absurd h List.not_mem_nil, h⟩

theorem OwnFs.below {K : Nat} {w w' : World} {v : Value} {ss : List Sl} (h : OwnFs K w v ss) (hb : Below w.heap.size w w') : OwnFs K w' v ss :=
  ⟨own_below h.own hb (Nat.le_refl _), fun s hs => (h.el s hs).below hb (Nat.le_refl _), h.ap, fun s hs k hk => Nat.lt_of_lt_of_le (h.lt s hs k hk) hb.size, Nat.le_trans h.ks hb.size⟩

theorem OwnFs.slices {K : Nat} {w : World} {v : Value} {ss : List Sl} (h : OwnFs K w v ss) : Slices w v ss := reads_of_own h.own

theorem OwnFs.push {K : Nat} {w w1 : World} {v v1 : Value} {ss : List Sl} {s : Sl} (h : OwnFs K w v ss) (hn : Nodes w (slV s) s.2) (hb : ∀ k, (slV s).ownBlock = some k → k < w.heap.size) (hs : ∀ k, v.ownBlock = some k → (slV s).ownBlock ≠ some k)
    (ho : w1.ownsRow K 52 1 v1 (ss.length + 1) (ss.map slV ++ [slV s])) (hg : w.grownBy w1 v.ownBlock) (hk : v1.ownBlock = v.ownBlock ∨ v1.ownBlock = some w.heap.size) : OwnFs K w1 v1 (ss ++ [s]) := by
  refine ⟨by rw [List.length_append, List.map_append]; exact ho, ?_, ?_, ?_, Nat.le_trans h.ks hg.size⟩
  · intro t ht
    rcases List.mem_append.1 ht with ht | ht
    · exact nodes_grown (h.el t ht) hg fun k hk2 => h.ap t ht k hk2
    · obtain rfl : t = s := by simpa using ht
      exact nodes_grown hn hg fun k hk2 => hs k hk2
  · intro t ht k hk2
    rcases hk with hk | hk
    · rw [hk] at hk2
      rcases List.mem_append.1 ht with ht | ht
      · exact h.ap t ht k hk2
      · obtain rfl : t = s := by simpa using ht
        exact hs k hk2
    · rw [hk] at hk2
      obtain rfl : w.heap.size = k := by simpa using hk2
      rcases List.mem_append.1 ht with ht | ht
      · intro e
        exact Nat.lt_irrefl _ (h.lt t ht _ e)
      · obtain rfl : t = s := by simpa using ht
        intro e
        exact Nat.lt_irrefl _ (hb _ e)
  · intro t ht k hk2
    rcases List.mem_append.1 ht with ht | ht
    · exact Nat.lt_of_lt_of_le (h.lt t ht k hk2) hg.size
    · obtain rfl : t = s := by simpa using ht
      exact Nat.lt_of_lt_of_le (hb k hk2) hg.size

/-- Each variable's own formula. -/
def selfL (k : Nat) : List (List Nd) := (List.range k).map fun (i : Nat) => [((0 : Int), (i : Int))]
theorem selfL_succ (k : Nat) : selfL (k + 1) = selfL k ++ [[((0 : Int), (k : Int))]] := by simp [selfL, List.range_succ]

theorem info_nodes : (Try.prog.info? 52).map (fun i => (i.zero, i.size, i.bytes)) = some (some (.slice none 0 0), 1, 24) := by kernel_rfl



end Go.Proofs.Ytfedipeabbaccaa
