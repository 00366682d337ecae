/- slices.Equal at []int64 (turned from l01Same_any). -/
import Derived.Test.YtobbhflajkhcdaaFbAll
namespace Go.Proofs.Ytobbhflajkhcdaa
open Go.RowKit
set_option linter.unusedVariables false

set_option maxHeartbeats 1000000 in
theorem equalI_any (v u : Value) (xs ys : List Int) (w : World) (h : Ints w v xs) (h' : Ints w u ys) :
    Calls Try.prog 37 #[v, u] w fun e w' => e = .returned (.bool (decide (xs = ys))) ∧ Below w.heap.size w w' := by
  obtain ⟨hm, a, c, b, o, rfl, hc, h0, hcell⟩ := h.opened
  obtain ⟨_, a', c', b', o', rfl, hc', h0', hcell'⟩ := h'.opened
  unfold maxLen at hm
  clear h h'
  by_cases hl : xs.length = ys.length
  · have hlh := Lib.hid hl
    rw [← hl] at hc' h0' hcell' ⊢
    clear hl
    have hz : xs.length ≤ 0 ∨ (0 < xs.length ∧ a = some ⟨b, o, none⟩ ∧ a' = some ⟨b', o', none⟩) := by
      rcases h0 with h0 | ⟨h0, e⟩
      · exact .inl h0
      · rcases h0' with h1 | ⟨_, e'⟩
        · omega
        · exact .inr ⟨h0, e, e'⟩
    clear h0 h0'
    rcases hz with h0 | ⟨h0, rfl, rfl⟩
    all_goals
      go_enter Try.func37, Try.ntmps37
      go_wp2_with fail
      go_loopw [13] (fun i wr => ∃ k : Nat, k ≤ xs.length ∧ i = .int .i64 k ∧ Hid (∀ j, j < k → xs[j]? = ys[j]?) ∧ Below w.heap.size w wr) (fun i _ => xs.length - (intOf i).toNat)
      case atStart => exact ⟨0, Nat.zero_le _, rfl, fun j hj => by omega, Below.refl _ _⟩
      case round =>
        obtain ⟨k, hk, rfl, hall, hb⟩ := hrel
        by_cases hlt : k < xs.length
        · all_goals try (exfalso; omega)
          all_goals
            obtain ⟨x, hx, hcx⟩ := hcell.out k hlt
            obtain ⟨y, hy, hcy⟩ := hcell'.out k hlt
            have hcx := (hb.cell (p := ⟨b, o + k, none⟩) (World.block_lt_of_cell? w _ hcx)).trans hcx
            have hcy := (hb.cell (p := ⟨b', o' + k, none⟩) (World.block_lt_of_cell? w _ hcy)).trans hcy
            have hx := Lib.hid hx
            have hy := Lib.hid hy
            cases hin : (x != y)
            · have he := Lib.hid (show xs[k]? = ys[k]? by
                obtain rfl : x = y := by simpa using hin
                rw [hx.out, hy.out])
              go_wp2_with fail
              go_region
              all_goals
                go_wp2_with fail
                go_roundw
                case rel =>
                  refine ⟨k + 1, by omega, by go_num, fun j hj => ?_, by repeat (first | exact hb | apply Below.drew)⟩
                  rcases Nat.lt_or_ge j k with h2 | h2
                  · exact hall.out j h2
                  · obtain rfl : j = k := by omega
                    exact he.out
                case measure => simp [intOf]; omega
            · have hf := Lib.hid (show decide (xs = ys) = false from decide_eq_false fun e => by
                have h1 := hx.out
                rw [e, hy.out] at h1
                obtain rfl := Option.some.inj h1
                simp at hin)
              go_wp2_with fail
              go_region
              all_goals
                go_wp2_with fail
                go_ret
                exact ⟨ret_bool hf.out.symm, by repeat (first | exact hb | apply Below.drew)⟩
        · obtain rfl : k = xs.length := by omega
          have hf := Lib.hid (show decide (xs = ys) = true from decide_eq_true (same_get hlh.out hall.out))
          go_wp2_with fail
          go_ret
          exact ⟨ret_bool hf.out.symm, hb⟩
  · have hf := Lib.hid (show decide (xs = ys) = false from decide_eq_false fun e => hl (by rw [e]))
    have hne : ((xs.length : Int) != (ys.length : Int)) = true := by rw [bne_iff_ne]; omega
    go_enter Try.func37, Try.ntmps37
    go_wp2_with fail
    go_ret
    exact ⟨ret_bool hf.out.symm, Below.refl _ _⟩
end Go.Proofs.Ytobbhflajkhcdaa
