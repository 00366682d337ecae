/- Lists of one's own whose elements are turned in place: the literals' opposites. -/
import Derived.Test.YtmhkcicjbgifnaaGreatMResM
import Derived.Test.YtmhkcicjbgifnaaGreatMClauses
namespace Go.Proofs.YtmhkcicjbgifnaaGreat
open Go.RowKit Go.Deep
set_option linter.unusedVariables false
set_option linter.unusedSimpArgs false

/-- The first j literals turned. -/
def partO (T : List Int) (j : Nat) : List Int := (T.take j).map opp ++ T.drop j
theorem partO_zero (T : List Int) : partO T 0 = T := by simp [partO]
theorem partO_full (T : List Int) : partO T T.length = T.map opp := by simp [partO]
theorem partO_len (T : List Int) (j : Nat) : (partO T j).length = T.length := by simp [partO]; omega
theorem split_at {T : List Int} {j : Nat} {x : Int} (h : T[j]? = some x) : ∃ A B, T = A ++ x :: B ∧ A.length = j := by
  obtain ⟨hj, hx⟩ := List.getElem?_eq_some_iff.1 h
  refine ⟨T.take j, T.drop (j + 1), ?_, by simp; omega⟩
  rw [← hx, List.getElem_cons_drop, List.take_append_drop]
theorem partO_get {T : List Int} {j : Nat} {x : Int} (h : T[j]? = some x) : (partO T j)[j]? = some x := by
  obtain ⟨A, B, rfl, rfl⟩ := split_at h
  simp [partO]
theorem partO_set {T : List Int} {j : Nat} {x : Int} (h : T[j]? = some x) : (partO T j).set j (opp x) = partO T (j + 1) := by
  obtain ⟨A, B, rfl, rfl⟩ := split_at h
  simp only [partO, List.take_append, List.drop_append]
  simp [List.take_of_length_le, List.drop_eq_nil_of_le]
def flipS (s : SlI) : SlI := (s.1, s.2.map opp)
theorem xor_one {x : Int} (h0 : 0 ≤ x) (h1 : x ≤ 11) : bits BinOp.xor IntKind.i64 x 1 = opp x := by
  have hc : x = 0 ∨ x = 1 ∨ x = 2 ∨ x = 3 ∨ x = 4 ∨ x = 5 ∨ x = 6 ∨ x = 7 ∨ x = 8 ∨ x = 9 ∨ x = 10 ∨ x = 11 := by omega
  rcases hc with rfl | rfl | rfl | rfl | rfl | rfl | rfl | rfl | rfl | rfl | rfl | rfl <;> decide
/-- One element of a list of one's own is stored to. -/
theorem GrowI.store {K : Nat} {w : World} {v : Value} {A B : List SlI} {hd : Option Addr × Nat × Nat} {xs : List Int} {g cap j : Nat} (h : GrowI K w v (A ++ (hd, xs) :: B)) (hg : hd = (some ⟨g, 0, none⟩, xs.length, cap)) (hj : j < xs.length) (y : Int) : GrowI K (w.setCell ⟨g, j, none⟩ (.int .i64 y)) v (A ++ (hd, xs.set j y) :: B) := by
  have hme : ((hd, xs) : SlI) ∈ A ++ (hd, xs) :: B := by simp
  have hgr := grown_setI w g j (.int .i64 y)
  have hbk : (slVI (hd, xs)).ownBlock = some g := by rw [hg]; rfl
  have hbk2 : ∀ ys : List Int, (slVI (hd, ys)).ownBlock = some g := fun ys => by rw [hg]; rfl
  have keep : ∀ {e : TypeId} {sz n : Nat} {u : Value} {zs : List Value}, w.ownsRow K e sz u n zs → (∀ k, u.ownBlock = some k → k ≠ g) → (w.setCell ⟨g, j, none⟩ (.int .i64 y)).ownsRow K e sz u n zs := fun {e sz n u zs} ho hne => row_same ho fun k hk _ hl => hgr.block k hl fun e => by
    injection e with e
    exact hne k hk e
  have hpw := h.pw
  rw [List.pairwise_append, List.pairwise_cons] at hpw
  obtain ⟨hA, ⟨hsB, hB⟩, hAB⟩ := hpw
  refine ⟨?_, fun s hs => ?_, fun s hs k hk hk2 => ?_, ?_, by rw [show (w.setCell ⟨g, j, none⟩ (.int .i64 y)).heap.size = w.heap.size by simp [World.setCell]]; exact h.ks⟩
  · have h1 := keep h.own (fun k hk e => by subst e; exact h.ap _ hme k hk hbk)
    have e1 : (A ++ (hd, xs.set j y) :: B).length = (A ++ (hd, xs) :: B).length := by simp
    have e2 : (A ++ (hd, xs.set j y) :: B).map slVI = (A ++ (hd, xs) :: B).map slVI := by simp [slVI]
    rw [e1, e2]
    exact h1
  · rcases List.mem_append.1 hs with hs | hs
    · refine keep (h.row s (List.mem_append_left _ hs)) fun k hk e => ?_
      subst e
      exact hAB s hs _ List.mem_cons_self k hk hbk
    · rcases List.mem_cons.1 hs with rfl | hs
      · have h1 := h.row _ hme
        subst hg
        have h2 := (h1.stored j (.int .i64 y)).1
        rw [← List.map_set] at h2
        rw [List.length_set]
        exact h2
      · refine keep (h.row s (List.mem_append_right _ (List.mem_cons_of_mem _ hs))) fun k hk e => ?_
        subst e
        exact hsB s hs k hbk hk
  · rcases List.mem_append.1 hs with hs | hs
    · exact h.ap s (List.mem_append_left _ hs) k hk hk2
    · rcases List.mem_cons.1 hs with rfl | hs
      · exact h.ap _ hme k hk hk2
      · exact h.ap s (List.mem_append_right _ (List.mem_cons_of_mem _ hs)) k hk hk2
  · rw [List.pairwise_append, List.pairwise_cons]
    refine ⟨hA, ⟨fun s hs k hk hk2 => hsB s hs k hk hk2, hB⟩, fun s hs t ht k hk hk2 => ?_⟩
    rcases List.mem_cons.1 ht with rfl | ht
    · exact hAB s hs _ List.mem_cons_self k hk hk2
    · exact hAB s hs t (List.mem_cons_of_mem _ ht) k hk hk2
end Go.Proofs.YtmhkcicjbgifnaaGreat
