/- What impl.parts hands back, at whatever formula: the list of its parts. -/
import Derived.Test.YtbpkogknmhklbaaLists
import Derived.Test.YtbpkogknmhklbaaParts
namespace Go.Proofs.Ytbpkogknmhklbaa
open Go.RowKit Go.Deep

/-- The parts right below a tree's first node. -/
def kidsT : Tr → List Tr
  | .nil => []
  | .node _ _ n l r => if ar n.1 = 0 then [] else if ar n.1 = 1 then [l] else [l, r]

theorem slices_nil (w : World) : Slices w (.slice none 0 0) [] := ⟨rfl, by simp [maxLen], none, 0, 0, 0, rfl, Nat.le_refl _, by simp, by simp⟩

theorem slices_cells {w : World} {v : Value} {b : Nat} {ss : List Sl} (hv : v = .slice (some ⟨b, 0, none⟩) ss.length ss.length) (hl : ss.length ≤ 2) (hc : ∀ i s, ss[i]? = some s → w.cell? ⟨b, i, none⟩ = some (slV s)) : Slices w v ss := by
  refine ⟨by simp, by unfold maxLen; omega, _, ss.length, b, 0, hv, Nat.le_refl _, fun _ => rfl, fun i u hu => ?_⟩
  rw [Nat.zero_add]
  rw [List.getElem?_map] at hu
  cases h : ss[i]? with
  | none => rw [h] at hu; cases hu
  | some s => rw [h] at hu; rw [hc i s h]; exact hu

theorem parts_any (t : Tr) (v : Value) (w : World) (hok : okT t) (h : Nodes w v (flat t)) (hn : (flat t).length ≤ 1000000) :
    Calls Try.prog 81 #[v] w fun e w' => ∃ vp ss, e = .returned vp ∧ Slices w' vp ss ∧ (∀ s ∈ ss, Nodes w' (slV s) s.2) ∧ ss.map (·.2) = (kidsT t).map flat ∧ Below w.heap.size w w' := by
  cases t with
  | nil => exact hok.elim
  | node b o n l r =>
    rcases hok with ⟨h1, rfl, rfl⟩ | ⟨h1, h2, rfl⟩ | ⟨h1, h2, h3⟩
    · refine (parts_leaf v n w h h1).mono ?_
      rintro e w' ⟨rfl, rfl⟩
      exact ⟨_, [], rfl, slices_nil _, by simp, by simp [kidsT, h1], Below.refl _ _⟩
    · have hl : (flat (.node b o n l .nil)).length = (flat l).length + 1 := by simp [flat]
      refine (parts_un v n l w (by simpa [flat] using h) h1 h2 (by omega)).mono ?_
      rintro e w' ⟨vl, rfl, hc, hnl, hb, _⟩
      obtain ⟨a, c, rfl⟩ := hnl.shape
      refine ⟨_, [((a, (flat l).length, c), flat l)], rfl, slices_cells rfl (by simp) ?_, ?_, by simp [kidsT, h1], hb⟩
      · intro i s hs
        match i, hs with
        | 0, hs => simp at hs; subst hs; exact hc
        | i + 1, hs => simp at hs
      · intro s hs
        rcases List.mem_cons.1 hs with rfl | hs
        · exact hnl
        · cases hs
    · have hl : (flat (.node b o n l r)).length = (flat l).length + (flat r).length + 1 := by simp [flat]
      refine (parts_bin v n l r w h h1 h2 h3 (by omega)).mono ?_
      rintro e w' ⟨vl, vr, rfl, hc, hc', hnl, hnr, hb, _⟩
      obtain ⟨a, c, rfl⟩ := hnl.shape
      obtain ⟨a', c', rfl⟩ := hnr.shape
      refine ⟨_, [((a, (flat l).length, c), flat l), ((a', (flat r).length, c'), flat r)], rfl, slices_cells rfl (by simp) ?_, ?_, by simp [kidsT, h1], hb⟩
      · intro i s hs
        match i, hs with
        | 0, hs => simp at hs; subst hs; exact hc
        | 1, hs => simp at hs; subst hs; exact hc'
        | i + 2, hs => simp at hs
      · intro s hs
        rcases List.mem_cons.1 hs with rfl | hs
        · exact hnl
        · rcases List.mem_cons.1 hs with rfl | hs
          · exact hnr
          · cases hs
end Go.Proofs.Ytbpkogknmhklbaa
