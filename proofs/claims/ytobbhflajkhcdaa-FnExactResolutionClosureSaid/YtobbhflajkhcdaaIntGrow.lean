/- Lists of lists of int64 under construction. (turned from XCompose) -/
import Derived.Test.YtobbhflajkhcdaaIntSSRow
namespace Go.Proofs.Ytobbhflajkhcdaa
open Go.RowKit

/-- A list of formulas under construction: the list and its elements lie in blocks of their own from K on. -/
structure GrowI (K : Nat) (w : World) (v : Value) (ss : List SlI) : Prop where
  own : w.ownsRow K 30 1 v ss.length (ss.map slVI)
  row : ∀ s ∈ ss, w.ownsRow K 2 1 (slVI s) s.2.length (s.2.map (Value.int .i64))
  ap : ∀ s ∈ ss, ∀ k, v.ownBlock = some k → (slVI s).ownBlock ≠ some k
  pw : ss.Pairwise fun s t => ∀ k, (slVI s).ownBlock = some k → (slVI t).ownBlock ≠ some k
  ks : K ≤ w.heap.size

theorem GrowI.nil {K : Nat} {w : World} (h : K ≤ w.heap.size) : GrowI K w (.slice none 0 0) [] := ⟨World.ownsRow_nil _ _ _ _, fun _ h => absurd h List.not_mem_nil, fun _ h => absurd h List.not_mem_nil, List.Pairwise.nil, h⟩
theorem GrowI.below {K : Nat} {w w' : World} {v : Value} {ss : List SlI} (h : GrowI K w v ss) (hb : Below w.heap.size w w') : GrowI K w' v ss :=
  ⟨own_below h.own hb (Nat.le_refl _), fun s hs => own_below (h.row s hs) hb (Nat.le_refl _), h.ap, h.pw, Nat.le_trans h.ks hb.size⟩

/-- A formula in new memory is appended. -/
theorem GrowI.add {K : Nat} {w w1 w2 : World} {v v1 : Value} {ss : List SlI} {s : SlI} (h : GrowI K w v ss) (b : Below w.heap.size w w1) (hr : w1.ownsRow w.heap.size 2 1 (slVI s) s.2.length (s.2.map (Value.int .i64)))
    (ho : w2.ownsRow K 30 1 v1 (ss.length + 1) (ss.map slVI ++ [slVI s])) (hg : w1.grownBy w2 v.ownBlock) (hk : v1.ownBlock = v.ownBlock ∨ v1.ownBlock = some w1.heap.size) : GrowI K w2 v1 (ss ++ [s]) := by
  have hv : ∀ k, v.ownBlock = some k → k < w.heap.size := own_lt h.own
  have hs : ∀ t ∈ ss, ∀ k, (slVI t).ownBlock = some k → k < w.heap.size := fun t ht => own_lt (h.row t ht)
  have hn : ∀ k, (slVI s).ownBlock = some k → w.heap.size ≤ k ∧ k < w1.heap.size := fun k hk => hr.lt k hk
  have hsz := b.size
  refine ⟨by rw [List.length_append, List.map_append]; exact ho, fun t ht => ?_, fun t ht k hk1 => ?_, ?_, Nat.le_trans h.ks (Nat.le_trans b.size hg.size)⟩
  · rcases List.mem_append.1 ht with ht | ht
    · exact row_same (own_below (h.row t ht) b (Nat.le_refl _)) fun k hk1 _ hl => hg.block k hl fun e => h.ap t ht k e.symm hk1
    · obtain rfl : t = s := by simpa using ht
      exact row_same (own_mono hr h.ks) fun k hk1 _ hl => hg.block k hl fun e => by
        have h1 := hv k e.symm
        have h2 := (hn k hk1).1
        omega
  · have hlt : ∀ j, (slVI t).ownBlock = some j → j < w1.heap.size := by
      intro j hj
      rcases List.mem_append.1 ht with ht | ht
      · have := hs t ht j hj; omega
      · obtain rfl : t = s := by simpa using ht
        exact (hn j hj).2
    rcases hk with hk | hk
    · rw [hk] at hk1
      rcases List.mem_append.1 ht with ht | ht
      · exact h.ap t ht k hk1
      · obtain rfl : t = s := by simpa using ht
        intro e
        have h1 := hv k hk1
        have h2 := (hn k e).1
        omega
    · rw [hk] at hk1
      obtain rfl : w1.heap.size = k := by simpa using hk1
      intro e
      exact Nat.lt_irrefl _ (hlt _ e)
  · rw [List.pairwise_append]
    refine ⟨h.pw, List.pairwise_singleton _ _, fun t ht u hu k hk1 hk2 => ?_⟩
    obtain rfl : u = s := by simpa using hu
    have h1 := hs t ht k hk1
    have h2 := (hn k hk2).1
    omega

theorem GrowI.slices {K : Nat} {w : World} {v : Value} {ss : List SlI} (h : GrowI K w v ss) : SlicesI w v ss := reads_of_own h.own
theorem GrowI.ownII {K : Nat} {w : World} {v : Value} {ss : List SlI} (h : GrowI K w v ss) : OwnII K w.heap.size w v (ss.map Prod.snd) :=
  ownII_of_sl h.slices h.row (fun s hs k hk => ⟨((h.row s hs).lt k hk).2, fun e => h.ap s hs k e hk⟩) h.pw (fun k hk => h.own.lt k hk) (Nat.le_refl _)

theorem OwnII.mono {lo lo' hi : Nat} {w : World} {v : Value} {Is : List (List Int)} (h : OwnII lo hi w v Is) (hl : lo' ≤ lo) : OwnII lo' hi w v Is := by
  obtain ⟨hs, h⟩ := h
  exact ⟨hs, h.out, h.len, fun j hd I h1 h2 => own_mono (h.row j hd I h1 h2) hl, h.lt, h.ap, fun k hk => ⟨Nat.le_trans hl (h.vlt k hk).1, (h.vlt k hk).2⟩, h.top⟩
theorem OwnII.up {lo hi : Nat} {w : World} {v : Value} {Is : List (List Int)} (h : OwnII lo hi w v Is) (hl : hi ≤ w.heap.size) : OwnII lo w.heap.size w v Is := by
  obtain ⟨hs, h⟩ := h
  exact ⟨hs, h.out, h.len, h.row, fun x hx k hk => ⟨Nat.lt_of_lt_of_le (h.lt x hx k hk).1 hl, (h.lt x hx k hk).2⟩, h.ap, fun k hk => ⟨(h.vlt k hk).1, Nat.lt_of_lt_of_le (h.vlt k hk).2 hl⟩, Nat.le_refl _⟩
theorem OwnII.nil (w : World) (lo : Nat) : OwnII lo w.heap.size w (.slice none 0 0) [] :=
  ⟨[], ⟨rfl, by simp, none, 0, 0, 0, rfl, Nat.le_refl _, by simp, by simp⟩, rfl, fun j h I h1 => by simp at h1, fun _ h => absurd h List.not_mem_nil, fun i j h h' k _ h1 => by simp at h1, fun k hk => by simp [Value.ownBlock] at hk, Nat.le_refl _⟩
end Go.Proofs.Ytobbhflajkhcdaa
