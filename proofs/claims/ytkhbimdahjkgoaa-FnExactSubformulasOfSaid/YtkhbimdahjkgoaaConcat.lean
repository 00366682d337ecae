/- Walks of what joins lists of nodes: slices.Grow, slices.Concat, and the reference's own appends. -/
import Derived.Test.YtkhbimdahjkgoaaLists
import Derived.Test.YtkhbimdahjkgoaaParts
import Derived.Lib.AppendZeros
namespace Go.Proofs.Ytkhbimdahjkgoaa
open Go.RowKit

theorem nodes_oneCell (ns : List Nd) : ∀ u ∈ cellsN ns, u.oneCell' = true := by
  intro u hu
  simp only [cellsN, List.mem_flatMap, encN, List.mem_cons, List.not_mem_nil, or_false] at hu
  obtain ⟨n, _, rfl | rfl⟩ := hu <;> rfl

/-- The source of an append: a list of nodes that lies in older memory, or beside the row. -/
theorem nodes_src {w : World} {b o : Nat} {ns : List Nd} (h : ∀ j q, (cellsN ns)[j]? = some q → w.cell? ⟨b, o + j, none⟩ = some q) : ∀ j q, (cellsN ns)[j]? = some q → w.cell? ((⟨b, o, none⟩ : Addr).add j) = some q := by
  intro j q hq
  rw [Addr.add_lit]
  exact h j q hq

theorem cells_below {w w' : World} {b o : Nat} {cs : List Value} {K : Nat} (h : ∀ j q, cs[j]? = some q → w.cell? ⟨b, o + j, none⟩ = some q) (hb : Below K w w') (hk : w.heap.size ≤ K) : ∀ j q, cs[j]? = some q → w'.cell? ⟨b, o + j, none⟩ = some q := by
  intro j q hq
  have h3 := h j q hq
  have hlt : b < w.heap.size := World.block_lt_of_cell? w _ h3
  exact (hb.cell (p := ⟨b, o + j, none⟩) (by show b < K; omega)).trans h3



/-- All nodes of a list of lists. -/
def catL (ss : List Sl) : List Nd := ss.flatMap (·.2)
theorem catL_succ {ss : List Sl} {k : Nat} {s : Sl} (h : ss[k]? = some s) : catL (ss.take (k + 1)) = catL (ss.take k) ++ s.2 := by
  have e : ss.take (k + 1) = ss.take k ++ [s] := by rw [List.take_add_one, h]; rfl
  rw [e]
  simp [catL, List.flatMap_append]
theorem catL_le (ss : List Sl) (k : Nat) : (catL (ss.take k)).length ≤ (catL ss).length := by
  have : catL ss = catL (ss.take k) ++ catL (ss.drop k) := by
    unfold catL
    rw [← List.flatMap_append, List.take_append_drop]
  rw [this, List.length_append]
  omega

theorem items_opened {w : World} {v : Value} {ss : List Sl} (h : Slices w v ss) (hs : ∀ s ∈ ss, Nodes w (slV s) s.2 ∧ 0 < s.2.length) : ss.length ≤ maxLen ∧ ∃ a c b o, v = .slice a ss.length c ∧ ss.length ≤ c ∧ (ss.length ≤ 0 ∨ 0 < ss.length ∧ a = some ⟨b, o, none⟩) ∧
    Hid (∀ k, k < ss.length → ∃ m b' o' c' xs, w.cell? ⟨b, o + k, none⟩ = some (.slice (some ⟨b', o', none⟩) m c') ∧ 0 < m ∧ m ≤ c' ∧ (catL (ss.take k)).length + m ≤ (catL ss).length ∧ (catL (ss.take (k + 1))).length = (catL (ss.take k)).length + m ∧ Hid (xs.length = m ∧ catL (ss.take (k + 1)) = catL (ss.take k) ++ xs ∧ ∀ j q, (cellsN xs)[j]? = some q → w.cell? ⟨b', o' + j, none⟩ = some q)) := by
  obtain ⟨hm, a, c, b, o, hv, hc, h0, hcell⟩ := h.opened
  refine ⟨hm, a, c, b, o, hv, hc, h0, fun k hk => ?_⟩
  obtain ⟨xa, xn, xc, xs, hx, hcx⟩ := hcell.out k hk
  obtain ⟨hn, hp⟩ := hs _ (List.mem_of_getElem? hx)
  obtain ⟨c', b', o', he, hc', _, hq⟩ := hn.raw hp
  simp only [slV, Value.slice.injEq] at he hp hc'
  obtain ⟨rfl, rfl, rfl⟩ := he
  have h1 := catL_succ hx
  have h2 := catL_le ss (k + 1)
  have h3 := congrArg List.length h1
  rw [List.length_append] at h3
  simp only at h1 h3
  exact ⟨_, b', o', xc, xs, hcx, hp, hc', by omega, h3, rfl, h1, hq.out⟩

end Go.Proofs.Ytkhbimdahjkgoaa
