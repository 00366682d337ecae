/- Lists of formulas in new memory: the substitution that replaces one variable. -/
import Derived.Test.YtfedipeabbaccaaSelf
import Derived.Test.YtfedipeabbaccaaParts
namespace Go.Proofs.Ytfedipeabbaccaa
open Go.RowKit

/-- v reads as a list of formulas. -/
def Fs (w : World) (v : Value) (Is : List (List Nd)) : Prop := ∃ ss : List Sl, Slices w v ss ∧ (∀ s ∈ ss, Nodes w (slV s) s.2) ∧ ss.map (·.2) = Is
theorem Fs.below {w w' : World} {v : Value} {Is : List (List Nd)} {K : Nat} (h : Fs w v Is) (hb : Below K w w') (hk : w.heap.size ≤ K) : Fs w' v Is := by
  obtain ⟨ss, h1, h2, h3⟩ := h
  exact ⟨ss, h1.below hb hk, fun s hs => (h2 s hs).below hb hk, h3⟩

theorem grown_set (w : World) (g o : Nat) (x : Value) : w.grownBy (w.setCell ⟨g, o, none⟩ x) (some g) := ⟨rfl, rfl, rfl, by simp [World.setCell], fun j _ hne => Below.heap_setCell _ _ _ _ (by simpa using hne)⟩

theorem OwnFs.set {K g cap u : Nat} {w : World} {ss : List Sl} {s : Sl} (h : OwnFs K w (.slice (some ⟨g, 0, none⟩) ss.length cap) ss) (_hu : u < ss.length) (hn : Nodes w (slV s) s.2) (hs : (slV s).ownBlock ≠ some g) : Fs (w.setCell ⟨g, u, none⟩ (slV s)) (.slice (some ⟨g, 0, none⟩) ss.length cap) ((ss.map (·.2)).set u s.2) := by
  refine ⟨ss.set u s, ?_, ?_, by rw [List.map_set]⟩
  · have h1 := (h.own.stored u (slV s)).1
    rw [← List.map_set] at h1
    have h2 := reads_of_own h1
    have e : (ss.set u s).length = ss.length := by simp
    unfold Slices
    rw [e]
    exact h2
  · intro t ht
    have hg := grown_set w g u (slV s)
    rcases List.mem_or_eq_of_mem_set ht with ht | rfl
    · exact nodes_grown (h.el t ht) hg fun k hk => by
        obtain rfl : g = k := by simpa using hk
        exact h.ap t ht g rfl
    · exact nodes_grown hn hg fun k hk => by
        obtain rfl : g = k := by simpa using hk
        exact hs

theorem OwnFs.open {K : Nat} {w : World} {v : Value} {ss : List Sl} (h : OwnFs K w v ss) (hp : 0 < ss.length) : ∃ g cap, v = .slice (some ⟨g, 0, none⟩) ss.length cap ∧ K ≤ g ∧ g < w.heap.size := by
  rcases h.own.2 with ⟨rfl, h0⟩ | ⟨g, cap, cur, rfl, hb, hg, _⟩
  · omega
  · exact ⟨g, cap, rfl, hb, (h.own.lt g rfl).2⟩

theorem own_blockN {w : World} {v : Value} {ns : List Nd} (h : Nodes w v ns) (hp : 0 < ns.length) : ∃ k, v.ownBlock = some k ∧ k < w.heap.size := by
  obtain ⟨c, b, o, rfl, _, _, hcell⟩ := h.raw hp
  have hc0 : (cellsN ns)[0]? = some ((cellsN ns)[0]'(by rw [cellsN_length]; omega)) := List.getElem?_eq_getElem _
  exact ⟨b, rfl, World.block_lt_of_cell? w _ (hcell.out 0 _ hc0)⟩

end Go.Proofs.Ytfedipeabbaccaa
