/- Substitution in a formula. -/
import Derived.Test.YtfedipeabbaccaaBind
import Derived.Test.YtfedipeabbaccaaConcat
import Derived.Deep.AppendLies
namespace Go.Proofs.Ytfedipeabbaccaa
open Go.RowKit

/-- The image of a formula. -/
def subN (Is : List (List Nd)) (n : Nd) : List Nd := if n.1 = 0 then Is.getD n.2.toNat [] else [n]
def subL (Is : List (List Nd)) (ns : List Nd) : List Nd := ns.flatMap (subN Is)
theorem subL_succ (Is : List (List Nd)) (ns : List Nd) (k : Nat) (x y : Int) (hx : ns[k]? = some (x, y)) : subL Is (ns.take (k + 1)) = subL Is (ns.take k) ++ subN Is (x, y) := by
  have e : ns.take (k + 1) = ns.take k ++ [(x, y)] := by rw [List.take_add_one, hx]; rfl
  rw [e]; simp [subL]
theorem subL_len (Is : List (List Nd)) (hI : ∀ I ∈ Is, I.length ≤ 1000) (ns : List Nd) : (subL Is ns).length ≤ ns.length * 1000 := by
  induction ns with
  | nil => simp [subL]
  | cons n ns ih =>
    have h : (subN Is n).length ≤ 1000 := by
      unfold subN
      split
      · rw [List.getD_eq_getElem?_getD]
        cases h : Is[n.2.toNat]? with
        | none => simp
        | some I => exact hI I (List.mem_of_getElem? h)
      · simp
    have e : subL Is (n :: ns) = subN Is n ++ subL Is ns := by simp [subL]
    rw [e, List.length_append, List.length_cons]
    omega

theorem Fs.get {w : World} {v : Value} {Is : List (List Nd)} (h : Fs w v Is) (h6 : Is.length = 6) : ∃ b o c, v = .slice (some ⟨b, o, none⟩) 6 c ∧ 6 ≤ c ∧ Hid (∀ j : Nat, j < 6 → ∃ vI I, Is[j]? = some I ∧ w.cell? ⟨b, o + j, none⟩ = some vI ∧ Nodes w vI I) := by
  obtain ⟨ss, h1, h2, h3⟩ := h
  have hl : ss.length = 6 := by have := congrArg List.length h3; simp at this; omega
  obtain ⟨_, _, a, c, b, o, rfl, hc, ha, hcell⟩ := h1
  obtain rfl := ha (by omega)
  rw [hl] at hc ⊢
  refine ⟨b, o, c, rfl, hc, fun j hj => ?_⟩
  have hg : ss[j]? = some (ss[j]'(by omega)) := List.getElem?_eq_getElem _
  refine ⟨slV (ss[j]'(by omega)), (ss[j]'(by omega)).2, by rw [← h3, List.getElem?_map, hg]; rfl, ?_, h2 _ (List.getElem_mem _)⟩
  exact hcell j _ (by rw [List.getElem?_map, hg]; rfl)

theorem news_two (w : World) (x y : Int) (t : TypeId) : ∀ j q, (cellsN [(x, y)])[j]? = some q → (w.alloc (.cells #[.int .i64 x, .int .i64 y] t)).cell? ((⟨w.heap.size, 0, none⟩ : Addr).add j) = some q :=
  World.news_of_block (cs := #[.int .i64 x, .int .i64 y]) (t := t) (fr := (0, 0)) (by show (w.heap.push _)[w.heap.size]? = _; simp)

end Go.Proofs.Ytfedipeabbaccaa
