/- Slices of steps (structs of a slice of integers and three integers): how they read. -/
import Derived.Test.YtobbhflajkhcdaaFbMath
namespace Go.Proofs.Ytobbhflajkhcdaa
open Go.RowKit
set_option linter.unusedVariables false

/-- A step in memory: its clause's slice, its three numbers. -/
abbrev StV := Value × Int × Int × Int
def encSt (s : StV) : List Value := [s.1, .int .i64 s.2.1, .int .i64 s.2.2.1, .int .i64 s.2.2.2]
def cellsSt (ss : List StV) : List Value := ss.flatMap encSt
theorem cellsSt_length (ns : List StV) : (cellsSt ns).length = ns.length * 4 := by
  induction ns with
  | nil => rfl
  | cons n ns ih => simp only [cellsSt, List.flatMap_cons, List.length_append] at ih ⊢; rw [ih]; simp [encSt]; omega
theorem cellsSt_get (ns : List StV) (k : Nat) (n : StV) (h : ns[k]? = some n) : (cellsSt ns)[k * 4]? = some n.1 ∧ (cellsSt ns)[k * 4 + 1]? = some (.int .i64 n.2.1) ∧ (cellsSt ns)[k * 4 + 2]? = some (.int .i64 n.2.2.1) ∧ (cellsSt ns)[k * 4 + 3]? = some (.int .i64 n.2.2.2) := by
  induction ns generalizing k with
  | nil => simp at h
  | cons m ns ih =>
    cases k with
    | zero => simp at h; subst h; simp [cellsSt, encSt]
    | succ k =>
      simp only [List.getElem?_cons_succ] at h
      have := ih k h
      rw [show (k + 1) * 4 = k * 4 + 1 + 1 + 1 + 1 by omega, show k * 4 + 1 + 1 + 1 + 1 + 1 = (k * 4 + 1) + 1 + 1 + 1 + 1 by omega, show k * 4 + 1 + 1 + 1 + 1 + 2 = (k * 4 + 2) + 1 + 1 + 1 + 1 by omega, show k * 4 + 1 + 1 + 1 + 1 + 3 = (k * 4 + 3) + 1 + 1 + 1 + 1 by omega]
      simp only [cellsSt, List.flatMap_cons, encSt, List.cons_append, List.nil_append, List.getElem?_cons_succ]
      exact this
theorem cellsSt_set (ns : List StV) (k : Nat) (m n : StV) (h : ns[k]? = some m) : ((((cellsSt ns).set (k * 4) n.1).set (k * 4 + 1) (.int .i64 n.2.1)).set (k * 4 + 2) (.int .i64 n.2.2.1)).set (k * 4 + 3) (.int .i64 n.2.2.2) = cellsSt (ns.set k n) := by
  induction ns generalizing k with
  | nil => simp at h
  | cons x ns ih =>
    cases k with
    | zero => simp [cellsSt, encSt]
    | succ k =>
      simp only [List.getElem?_cons_succ] at h
      have := ih k h
      rw [show (k + 1) * 4 = k * 4 + 1 + 1 + 1 + 1 by omega, show k * 4 + 1 + 1 + 1 + 1 + 1 = (k * 4 + 1) + 1 + 1 + 1 + 1 by omega, show k * 4 + 1 + 1 + 1 + 1 + 2 = (k * 4 + 2) + 1 + 1 + 1 + 1 by omega, show k * 4 + 1 + 1 + 1 + 1 + 3 = (k * 4 + 3) + 1 + 1 + 1 + 1 by omega]
      simp only [cellsSt, List.flatMap_cons, encSt, List.cons_append, List.nil_append, List.set_cons_succ] at this ⊢
      rw [this]

/-- v is a slice of steps that reads S. -/
def Steps (w : World) (v : Value) (S : List Stp) : Prop :=
  S.length ≤ maxLen ∧ ∃ a c b o, v = .slice a S.length c ∧ S.length ≤ c ∧ (0 < S.length → a = some ⟨b, o, none⟩) ∧
    Hid (∀ i s, S[i]? = some s → ∃ u, w.cell? ⟨b, o + i * 4, none⟩ = some u ∧ Ints w u s.1 ∧ w.cell? ⟨b, o + i * 4 + 1, none⟩ = some (.int .i64 s.2.1) ∧ w.cell? ⟨b, o + i * 4 + 2, none⟩ = some (.int .i64 s.2.2.1) ∧ w.cell? ⟨b, o + i * 4 + 3, none⟩ = some (.int .i64 s.2.2.2))
theorem Steps.below {w w' : World} {v : Value} {S : List Stp} {K : Nat} (h : Steps w v S) (hb : Below K w w') (hk : w.heap.size ≤ K) : Steps w' v S := by
  obtain ⟨h1, a, c, b, o, hv, hc, ha, hcell⟩ := h
  refine ⟨h1, a, c, b, o, hv, hc, ha, fun i s hs => ?_⟩
  obtain ⟨u, c0, ci, c1, c2, c3⟩ := hcell.out i s hs
  have hlt : b < w.heap.size := World.block_lt_of_cell? w _ c0
  have hp : ∀ k, w'.cell? ⟨b, k, none⟩ = w.cell? ⟨b, k, none⟩ := fun k => hb.cell (p := ⟨b, k, none⟩) (by show b < K; omega)
  exact ⟨u, (hp _).trans c0, ci.below hb hk, (hp _).trans c1, (hp _).trans c2, (hp _).trans c3⟩
/-- Out of a row of one's own and the readings of its clauses. -/
theorem steps_of_own {w : World} {B : Nat} {e : TypeId} {v : Value} {ss : List StV} {S : List Stp} (h : w.ownsRow B e 4 v S.length (cellsSt ss))
    (hr : ∀ (i : Nat) (s : StV) (t : Stp), ss[i]? = some s → S[i]? = some t → s.2 = t.2 ∧ Ints w s.1 t.1) : Steps w v S := by
  have hl : ss.length = S.length := by have := h.1; rw [cellsSt_length] at this; omega
  obtain ⟨h1, h2, a, c, b, o, hv, hc, ha, hcell⟩ := reads_of_own h
  refine ⟨h2, a, c, b, o, hv, hc, ha, fun i t ht => ?_⟩
  have hi : i < ss.length := by rw [hl]; exact (List.getElem?_eq_some_iff.1 ht).1
  have hs : ss[i]? = some ss[i] := List.getElem?_eq_getElem hi
  obtain ⟨e2, hin⟩ := hr i _ t hs ht
  obtain ⟨g0, g1, g2, g3⟩ := cellsSt_get ss i _ hs
  rw [e2] at g1 g2 g3
  refine ⟨_, hcell _ _ g0, hin, ?_, ?_, ?_⟩
  · rw [Nat.add_assoc]; exact hcell _ _ g1
  · rw [Nat.add_assoc]; exact hcell _ _ g2
  · rw [Nat.add_assoc]; exact hcell _ _ g3
theorem Steps.opened {w : World} {v : Value} {S : List Stp} (h : Steps w v S) : S.length ≤ maxLen ∧ ∃ a c b o, v = .slice a S.length c ∧ S.length ≤ c ∧ (S.length ≤ 0 ∨ 0 < S.length ∧ a = some ⟨b, o, none⟩) ∧
    Hid (∀ k, k < S.length → ∃ xs x y z u n cp, S[k]? = some (xs, x, y, z) ∧ w.cell? ⟨b, o + k * 4, none⟩ = some (.slice u n cp) ∧ Ints w (.slice u n cp) xs ∧ w.cell? ⟨b, o + k * 4 + 1, none⟩ = some (.int .i64 x) ∧ w.cell? ⟨b, o + k * 4 + 2, none⟩ = some (.int .i64 y) ∧ w.cell? ⟨b, o + k * 4 + 3, none⟩ = some (.int .i64 z)) := by
  obtain ⟨h1, a, c, b, o, hv, hc, ha, hcell⟩ := h
  refine ⟨h1, a, c, b, o, hv, hc, ?_, fun k hk => ?_⟩
  · rcases Nat.eq_zero_or_pos S.length with h | h
    · exact .inl (by omega)
    · exact .inr ⟨h, ha h⟩
  · obtain ⟨u, c0, ci, c1, c2, c3⟩ := hcell.out k _ (List.getElem?_eq_getElem hk)
    obtain ⟨a1, cp1, rfl⟩ := ci.shape
    exact ⟨_, _, _, _, a1, _, cp1, List.getElem?_eq_getElem hk, c0, ci, c1, c2, c3⟩
theorem Steps.cap {w : World} {v : Value} {S : List Stp} (h : Steps w v S) : S.length ≤ maxLen := h.1
/-- The steps ahead of one. -/
theorem Steps.take {w : World} {a : Option Addr} {n c : Nat} {S : List Stp} (h : Steps w (.slice a n c) S) (k : Nat) (hk : k ≤ S.length) : Steps w (.slice a k c) (S.take k) := by
  obtain ⟨h1, a', c', b, o, hv, hc, ha, hcell⟩ := h
  injection hv with e1 e2 e3
  subst e1; subst e3
  have hl : (S.take k).length = k := by rw [List.length_take]; omega
  refine ⟨by rw [hl]; omega, a, c, b, o, by rw [hl], by rw [hl]; omega, fun h => ha (by omega), fun i s hs => ?_⟩
  rw [List.getElem?_take] at hs
  split at hs
  · exact hcell.out i s hs
  · cases hs
end Go.Proofs.Ytobbhflajkhcdaa
