/- likeInts at two slices that read alike. -/
import Derived.Test.YtfedipeabbaccaaInts
namespace Go.Proofs.Ytfedipeabbaccaa
open Go.RowKit

set_option maxHeartbeats 800000 in
theorem likeInts_same (v v' : Value) (xs : List Int) (w : World) (h : Ints w v xs) (h' : Ints w v' xs) :
    Calls Try.prog 25 #[v, v'] w fun e w' => e = .returned (.bool true) ∧ Below w.heap.size w w' := by
  obtain ⟨hm, a, c, b, o, rfl, hc, h0, hcell⟩ := h.opened
  obtain ⟨hm', a', c', b', o', rfl, hc', h0', hcell'⟩ := h'.opened
  unfold maxLen at hm hm'
  clear h h'
  rcases h0 with h0 | ⟨h0, rfl⟩
  all_goals rcases h0' with h0' | ⟨h0', rfl⟩
  all_goals try (exfalso; omega)
  all_goals
    go_enter Try.func25, Try.ntmps25
    go_wp2_with fail
    go_loopw [5] (fun i wr => ∃ k : Nat, k ≤ xs.length ∧ i = .int .i64 k ∧ Below w.heap.size w wr) (fun i _ => xs.length - (intOf i).toNat)
    case atStart => exact ⟨0, Nat.zero_le _, rfl, Below.refl _ _⟩
    case round =>
      obtain ⟨k, hk, rfl, hb⟩ := hrel
      by_cases hlt : k < xs.length
      · all_goals try (exfalso; omega)
        all_goals
          obtain ⟨x, hx, hcx⟩ := hcell.out k hlt
          obtain ⟨y, hy, hcy⟩ := hcell'.out k hlt
          obtain rfl : x = y := by rw [hx] at hy; simpa using hy
          have hcx := (hb.cell (p := ⟨b, o + k, none⟩) (World.block_lt_of_cell? w _ hcx)).trans hcx
          have hcy := (hb.cell (p := ⟨b', o' + k, none⟩) (World.block_lt_of_cell? w _ hcy)).trans hcy
          clear hx hy
          go_wp2_with fail
          go_quiet (fail)
          go_wp2_with fail
          go_roundw
          case rel => exact ⟨k + 1, by omega, by go_num, hb.trans (below_drewN' _ _)⟩
          case measure => simp [intOf]; omega
      · obtain rfl : k = xs.length := by omega
        go_wp2_with fail
        go_ret
        exact ⟨rfl, hb⟩
end Go.Proofs.Ytfedipeabbaccaa
