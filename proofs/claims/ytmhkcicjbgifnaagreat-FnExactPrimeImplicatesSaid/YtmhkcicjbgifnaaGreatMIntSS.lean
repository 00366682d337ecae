/- Lists of lists of int64: how they read; the laws' functions on them. (written by turnii.py) -/
import Derived.Test.YtmhkcicjbgifnaaGreatMInts
import Derived.Test.YtmhkcicjbgifnaaGreatMPredM
import Derived.Maps.AppendAt
import Derived.Deep.RegionHeld3

namespace Go.Proofs.YtmhkcicjbgifnaaGreat
open Go.RowKit

theorem Ints.shape {w : World} {v : Value} {xs : List Int} (h : Ints w v xs) : ∃ a c, v = .slice a xs.length c := by
  obtain ⟨_, _, a, c, _, _, hv, _⟩ := h
  exact ⟨a, c, hv⟩

/-- A slice's three parts, and the nodes that it reads. -/
abbrev SlI := (Option Addr × Nat × Nat) × List Int
def slVI (s : SlI) : Value := .slice s.1.1 s.1.2.1 s.1.2.2

/-- A slice of slices: the elements' own values. -/
def SlicesI (w : World) (v : Value) (ss : List SlI) : Prop := Reads w 1 v ss.length (ss.map slVI)

theorem SlicesI.below {w w' : World} {v : Value} {ss : List SlI} {K : Nat} (h : SlicesI w v ss) (hb : Below K w w') (hk : w.heap.size ≤ K) : SlicesI w' v ss := Reads.below h hb hk

theorem SlicesI.opened {w : World} {v : Value} {ss : List SlI} (h : SlicesI w v ss) : ss.length ≤ maxLen ∧ ∃ a c b o, v = .slice a ss.length c ∧ ss.length ≤ c ∧ (ss.length ≤ 0 ∨ 0 < ss.length ∧ a = some ⟨b, o, none⟩) ∧
    Hid (∀ k, k < ss.length → ∃ a n c ns, ss[k]? = some ((a, n, c), ns) ∧ w.cell? ⟨b, o + k, none⟩ = some (.slice a n c)) := by
  obtain ⟨_, h2, a, c, b, o, hv, hc, ha, hcell⟩ := h
  refine ⟨h2, a, c, b, o, hv, hc, ?_, fun k hk => ⟨ss[k].1.1, ss[k].1.2.1, ss[k].1.2.2, ss[k].2, by simp [hk], hcell k _ (by simp [hk, slVI])⟩⟩
  rcases Nat.eq_zero_or_pos ss.length with h | h
  · exact .inl (by omega)
  · exact .inr ⟨h, ha h⟩




/-- What is read stays where another row is written. -/
theorem ints_grown {w w' : World} {v : Value} {ns : List Int} {row : Option Nat} (h : Ints w v ns) (hg : w.grownBy w' row) (hne : ∀ k, row = some k → v.ownBlock ≠ some k) : Ints w' v ns := by
  obtain ⟨h1, h2, a, c, b, o, rfl, hc, ha, hcell⟩ := h
  refine ⟨h1, h2, a, c, b, o, rfl, hc, ha, fun i u hu => ?_⟩
  have hp : 0 < ns.length := by
    rcases Nat.eq_zero_or_pos ns.length with h0 | h0
    · rw [List.eq_nil_of_length_eq_zero h0] at hu; cases hu
    · exact h0
  obtain rfl := ha hp
  have h3 := hcell i u hu
  exact (World.cell?_of_block (hg.block b (World.block_lt_of_cell? w _ h3) fun e => hne b e.symm rfl)).trans h3


theorem info_ints : (Tryz.prog.info? 48).map (fun i => (i.zero, i.size, i.bytes)) = some (some (.slice none 0 0), 1, 24) := by kernel_rfl

/-- v reads as a list of lists of int64. -/
def Fi (w : World) (v : Value) (Is : List (List Int)) : Prop := ∃ ss : List SlI, SlicesI w v ss ∧ (∀ s ∈ ss, Ints w (slVI s) s.2) ∧ ss.map (·.2) = Is
theorem Fi.below {w w' : World} {v : Value} {Is : List (List Int)} {K : Nat} (h : Fi w v Is) (hb : Below K w w') (hk : w.heap.size ≤ K) : Fi w' v Is := by
  obtain ⟨ss, h1, h2, h3⟩ := h
  exact ⟨ss, h1.below hb hk, fun s hs => (h2 s hs).below hb hk, h3⟩

theorem grown_setI (w : World) (g o : Nat) (x : Value) : w.grownBy (w.setCell ⟨g, o, none⟩ x) (some g) := ⟨rfl, rfl, rfl, by simp [World.setCell], fun j _ hne => Below.heap_setCell _ _ _ _ (by simpa using hne)⟩


theorem Fi.cells {w : World} {v : Value} {Is : List (List Int)} (h : Fi w v Is) : ∃ a c b o, v = .slice a Is.length c ∧ Is.length ≤ c ∧ Is.length ≤ maxLen ∧ (0 < Is.length → a = some ⟨b, o, none⟩) ∧ Hid (∀ j : Nat, j < Is.length → ∃ vI I, Is[j]? = some I ∧ w.cell? ⟨b, o + j, none⟩ = some vI ∧ Ints w vI I) := by
  obtain ⟨ss, h1, h2, h3⟩ := h
  have hl : ss.length = Is.length := by have := congrArg List.length h3; simpa using this
  obtain ⟨_, hm, a, c, b, o, rfl, hc, ha, hcell⟩ := h1
  rw [hl] at hc hm ha ⊢
  refine ⟨a, c, b, o, rfl, hc, hm, ha, fun j hj => ?_⟩
  have hjs : j < ss.length := by omega
  obtain ⟨s, hs⟩ : ∃ s, ss[j]? = some s := ⟨_, List.getElem?_eq_getElem hjs⟩
  refine ⟨slVI s, s.2, by rw [← h3, List.getElem?_map, hs]; rfl, ?_, h2 s (List.mem_of_getElem? hs)⟩
  exact hcell j _ (by rw [List.getElem?_map, hs]; rfl)


def szRI (l : Int) (n : Nat) : Int := if l < n then -1 else l - n
theorem szRI_lt {l : Int} {n : Nat} (h : l < n) : szRI l n = -1 := if_pos h
theorem szRI_ge {l : Int} {n : Nat} (h : (n : Int) ≤ l) : szRI l n = l - n := if_neg (by omega)


def nilSlI : SlI := ((none, 0, 0), [])
theorem made_slicesI (n : Nat) : (madeCells (Value.slice none 0 0).cells (n * 1)).toList = (List.replicate n nilSlI).map slVI := by
  have : (Value.slice none 0 0).cells = #[.slice none 0 0] := rfl
  rw [this, Nat.mul_one, toList_madeCells_one]
  simp [nilSlI, slVI]
theorem set_nextI {α : Type} (ss : List α) (x d : α) (n : Nat) (h : ss.length < n) : (ss ++ List.replicate (n - ss.length) d).set ss.length x = (ss ++ [x]) ++ List.replicate (n - (ss.length + 1)) d := by
  rw [List.set_append_right _ _ (Nat.le_refl _), Nat.sub_self]
  have : n - ss.length = (n - (ss.length + 1)) + 1 := by omega
  rw [this, List.replicate_succ]
  simp


set_option maxHeartbeats 1000000 in
theorem eqInt64SS_same (v v' : Value) (Is : List (List Int)) (w : World) (h : Fi w v Is) (h' : Fi w v' Is) :
    Calls Tryz.prog 9 #[v, v'] w fun e w' => e = .returned (.bool true) ∧ Below w.heap.size w w' := by
  obtain ⟨a, c, b, o, rfl, hc, hm, ha, hcell⟩ := h.cells
  obtain ⟨a', c', b', o', rfl, hc', _, ha', hcell'⟩ := h'.cells
  unfold maxLen at hm
  clear h h'
  have hah := Lib.hid ha
  have hah' := Lib.hid ha'
  clear ha ha'
  go_enter Tryz.func9, Tryz.ntmps9
  go_wp2_with fail
  go_loopw [5] (fun i wr => ∃ k : Nat, k ≤ Is.length ∧ i = .int .i64 k ∧ Below w.heap.size w wr) (fun i _ => Is.length - (intOf i).toNat)
  case atStart => exact ⟨0, Nat.zero_le _, rfl, Below.refl _ _⟩
  case round =>
    obtain ⟨k, hk, rfl, hb⟩ := hrel
    by_cases hlt : k < Is.length
    · obtain rfl := hah.out (by omega)
      obtain rfl := hah'.out (by omega)
      obtain ⟨vI, I, hI, hcI, hnI⟩ := hcell.out k hlt
      obtain ⟨vJ, J, hJ, hcJ, hnJ⟩ := hcell'.out k hlt
      obtain rfl : I = J := by rw [hI] at hJ; simpa using hJ
      have hcI := (hb.cell (p := ⟨b, o + k, none⟩) (World.block_lt_of_cell? w _ hcI)).trans hcI
      have hcJ := (hb.cell (p := ⟨b', o' + k, none⟩) (World.block_lt_of_cell? w _ hcJ)).trans hcJ
      obtain ⟨a1, c1, rfl⟩ := hnI.shape
      obtain ⟨a2, c2, rfl⟩ := hnJ.shape
      have heq := Lib.hid (fun W (hW : Below w.heap.size w W) => eqInt64S_same _ _ I W (hnI.below hW (Nat.le_refl _)) (hnJ.below hW (Nat.le_refl _)))
      have hki : (k : Int) < (Is.length : Int) := by omega
      clear hI hJ hnI hnJ
      go_wp2_with fail
      (first | (go_region_held3 (fun W => Below w.heap.size w W ∧ W.cell? ⟨b, o + k, none⟩ = some (.slice a1 I.length c1) ∧ W.cell? ⟨b', o' + k, none⟩ = some (.slice a2 I.length c2)) (first | (refine ⟨?_, ?_, ?_⟩ <;> (first | assumption | (exact Below.drew (by assumption)))) | (obtain ⟨hs1, hs2, hs3⟩ := ‹Below _ _ _ ∧ _ ∧ _›; exact ⟨keep_step (by assumption) hs1, keep_cell (by assumption) hs2, keep_cell (by assumption) hs3⟩)) (first | (go_at_call 25; refine (heq.out _ (And.left ‹Below w.heap.size w _ ∧ _ ∧ _›)).mono ?_; rintro e w' ⟨rfl, hb'⟩))) | fail)
      all_goals
        go_wp2_with fail
        go_roundw
        case rel => exact ⟨k + 1, by omega, by go_num, by first | assumption | exact (‹Below w.heap.size w _ ∧ _ ∧ _›).1⟩
        case measure => simp [intOf]; omega
    · obtain rfl : k = Is.length := by omega
      go_wp2_with fail
      go_ret
      exact ⟨rfl, hb⟩
end Go.Proofs.YtmhkcicjbgifnaaGreat
