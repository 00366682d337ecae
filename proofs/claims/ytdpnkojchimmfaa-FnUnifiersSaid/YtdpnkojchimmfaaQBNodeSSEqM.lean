/- Lists of formulas as arguments of the laws: the measure. -/
import Derived.Test.YtdpnkojchimmfaaQBIsSub

namespace Go.Proofs.Ytdpnkojchimmfaa
open Go.RowKit

end Go.Proofs.Ytdpnkojchimmfaa

/- Lists of formulas as arguments of the laws: the copy. -/
namespace Go.Proofs.Ytdpnkojchimmfaa
open Go.RowKit

def nilSl : Sl := ((none, 0, 0), [])
theorem made_slices (n : Nat) : (madeCells (Value.slice none 0 0).cells (n * 1)).toList = (List.replicate n nilSl).map slV := by
  have : (Value.slice none 0 0).cells = #[.slice none 0 0] := rfl
  rw [this, Nat.mul_one, toList_madeCells_one]
  simp [nilSl, slV]
theorem set_next {α : Type} (ss : List α) (x d : α) (n : Nat) (h : ss.length < n) : (ss ++ List.replicate (n - ss.length) d).set ss.length x = (ss ++ [x]) ++ List.replicate (n - (ss.length + 1)) d := by
  rw [List.set_append_right _ _ (Nat.le_refl _), Nat.sub_self]
  have : n - ss.length = (n - (ss.length + 1)) + 1 := by omega
  rw [this, List.replicate_succ]
  simp

end Go.Proofs.Ytdpnkojchimmfaa

/- Lists of formulas as arguments of the laws: equality of two that read alike. -/
namespace Go.Proofs.Ytdpnkojchimmfaa
open Go.RowKit

set_option maxHeartbeats 1000000 in
theorem eqNodeSS_same (v v' : Value) (Is : List (List Nd)) (w : World) (h : Fs w v Is) (h' : Fs w v' Is) :
    Calls Try.prog 10 #[v, v'] w fun e w' => e = .returned (.bool true) ∧ Below w.heap.size w w' := by
  obtain ⟨a, c, b, o, rfl, hc, hm, ha, hcell⟩ := h.cells
  obtain ⟨a', c', b', o', rfl, hc', _, ha', hcell'⟩ := h'.cells
  unfold maxLen at hm
  clear h h'
  have hah := Lib.hid ha
  have hah' := Lib.hid ha'
  clear ha ha'
  go_enter Try.func10, Try.ntmps10
  go_wp2_with fail
  go_loopw [5] (fun i wr => ∃ k : Nat, k ≤ Is.length ∧ i = .int .i64 k ∧ Below w.heap.size w wr) (fun i _ => Is.length - (intOf i).toNat)
  case atStart => exact ⟨0, Nat.zero_le _, rfl, Below.refl _ _⟩
  case round =>
    obtain ⟨k, hk, rfl, hb⟩ := hrel
    by_cases hlt : k < Is.length
    · obtain rfl := hah.out (by omega)
      obtain rfl := hah'.out (by omega)
      obtain ⟨vI, I, hI, hcI, hnI⟩ := hcell.out k hlt
      obtain ⟨vJ, J, hJ, hcJ, hnJ⟩ := hcell'.out k hlt
      obtain rfl : I = J := by rw [hI] at hJ; simpa using hJ
      have hcI := (hb.cell (p := ⟨b, o + k, none⟩) (World.block_lt_of_cell? w _ hcI)).trans hcI
      have hcJ := (hb.cell (p := ⟨b', o' + k, none⟩) (World.block_lt_of_cell? w _ hcJ)).trans hcJ
      obtain ⟨a1, c1, rfl⟩ := hnI.shape
      obtain ⟨a2, c2, rfl⟩ := hnJ.shape
      have heq := Lib.hid (fun W (hW : Below w.heap.size w W) => eqNodeS_same _ _ I W (hnI.below hW (Nat.le_refl _)) (hnJ.below hW (Nat.le_refl _)))
      have hki : (k : Int) < (Is.length : Int) := by omega
      clear hI hJ hnI hnJ
      go_wp2_with fail
      (first | (go_region_held3 (fun W => Below w.heap.size w W ∧ W.cell? ⟨b, o + k, none⟩ = some (.slice a1 I.length c1) ∧ W.cell? ⟨b', o' + k, none⟩ = some (.slice a2 I.length c2)) (first | (refine ⟨?_, ?_, ?_⟩ <;> (first | assumption | (exact Below.drew (by assumption)))) | (obtain ⟨hs1, hs2, hs3⟩ := ‹Below _ _ _ ∧ _ ∧ _›; exact ⟨keep_step (by assumption) hs1, keep_cell (by assumption) hs2, keep_cell (by assumption) hs3⟩)) (first | (go_at_call 11; refine (heq.out _ (And.left ‹Below w.heap.size w _ ∧ _ ∧ _›)).mono ?_; rintro e w' ⟨rfl, hb'⟩))) | fail)
      all_goals
        go_wp2_with fail
        go_roundw
        case rel => exact ⟨k + 1, by omega, by go_num, by first | assumption | exact (‹Below w.heap.size w _ ∧ _ ∧ _›).1⟩
        case measure => simp [intOf]; omega
    · obtain rfl : k = Is.length := by omega
      go_wp2_with fail
      go_ret
      exact ⟨rfl, hb⟩
end Go.Proofs.Ytdpnkojchimmfaa
