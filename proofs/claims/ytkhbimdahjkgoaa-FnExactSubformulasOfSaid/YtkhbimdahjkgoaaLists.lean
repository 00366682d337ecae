/- Lists of formulas: slices whose elements are slices of nodes; slices.IndexFunc and slices.ContainsFunc on them; areFormulas. -/
import Derived.Test.YtkhbimdahjkgoaaForm
namespace Go.Proofs.Ytkhbimdahjkgoaa
open Go.RowKit

/-- A slice's three parts, and the nodes that it reads. -/
abbrev Sl := (Option Addr × Nat × Nat) × List Nd
def slV (s : Sl) : Value := .slice s.1.1 s.1.2.1 s.1.2.2

/-- A slice of slices: the elements' own values. -/
def Slices (w : World) (v : Value) (ss : List Sl) : Prop := Reads w 1 v ss.length (ss.map slV)

theorem Slices.below {w w' : World} {v : Value} {ss : List Sl} {K : Nat} (h : Slices w v ss) (hb : Below K w w') (hk : w.heap.size ≤ K) : Slices w' v ss := Reads.below h hb hk

theorem Slices.opened {w : World} {v : Value} {ss : List Sl} (h : Slices w v ss) : ss.length ≤ maxLen ∧ ∃ a c b o, v = .slice a ss.length c ∧ ss.length ≤ c ∧ (ss.length ≤ 0 ∨ 0 < ss.length ∧ a = some ⟨b, o, none⟩) ∧
    Hid (∀ k, k < ss.length → ∃ a n c ns, ss[k]? = some ((a, n, c), ns) ∧ w.cell? ⟨b, o + k, none⟩ = some (.slice a n c)) := by
  obtain ⟨_, h2, a, c, b, o, hv, hc, ha, hcell⟩ := h
  refine ⟨h2, a, c, b, o, hv, hc, ?_, fun k hk => ⟨ss[k].1.1, ss[k].1.2.1, ss[k].1.2.2, ss[k].2, by simp [hk], hcell k _ (by simp [hk, slV])⟩⟩
  rcases Nat.eq_zero_or_pos ss.length with h | h
  · exact .inl (by omega)
  · exact .inr ⟨h, ha h⟩




theorem slices_two (w : World) (a a' : Option Addr) (n n' c c' : Nat) (ns ns' : List Nd) (t : TypeId) : Slices (w.alloc (.cells #[.slice a n c, .slice a' n' c'] t)) (.slice (some ⟨w.heap.size, 0, none⟩) 2 2) [((a, n, c), ns), ((a', n', c'), ns')] := by
  refine ⟨rfl, by show 2 ≤ maxLen; unfold maxLen; omega, _, 2, w.heap.size, 0, rfl, by show 2 ≤ 2; omega, fun _ => rfl, fun i u hu => ?_⟩
  rw [World.cell?_alloc_at _ _ _ _ rfl]
  match i, hu with
  | 0, hu => simpa [slV] using hu
  | 1, hu => simpa [slV] using hu
  | i + 2, hu => simp at hu

end Go.Proofs.Ytkhbimdahjkgoaa
