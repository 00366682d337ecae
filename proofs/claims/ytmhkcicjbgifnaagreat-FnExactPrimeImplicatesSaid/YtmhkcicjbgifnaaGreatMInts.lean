/- The laws' own helpers on []int64: a copy, equality, the marks that are written into a result and read again. -/
import Derived.Test.YtmhkcicjbgifnaaGreatRows
import Derived.Test.YtmhkcicjbgifnaaGreatMKit

namespace Go.Proofs.YtmhkcicjbgifnaaGreat
open Go.RowKit

theorem info_i64 : (Tryz.prog.info? 2).map (fun i => (i.zero, i.size, i.bytes)) = some (some (.int .i64 0), 1, 8) := by kernel_rfl


set_option maxHeartbeats 400000 in
theorem eqInt64S_same (v u : Value) (xs : List Int) (w : World) (h : Ints w v xs) (h' : Ints w u xs) :
    Calls Tryz.prog 25 #[v, u] w fun e w' => e = .returned (.bool true) ∧ Below w.heap.size w w' := by
  obtain ⟨hm, a, c, b, o, rfl, hc, h0, hcell⟩ := h.opened
  obtain ⟨_, a', c', b', o', rfl, hc', h0', hcell'⟩ := h'.opened
  unfold maxLen at hm
  have hz : xs.length ≤ 0 ∨ (0 < xs.length ∧ a = some ⟨b, o, none⟩ ∧ a' = some ⟨b', o', none⟩) := by
    rcases h0 with h0 | ⟨h0, e⟩
    · exact .inl h0
    · rcases h0' with h1 | ⟨_, e'⟩
      · omega
      · exact .inr ⟨h0, e, e'⟩
  clear h0 h0' h h'
  rcases hz with h0 | ⟨h0, rfl, rfl⟩
  all_goals
    go_enter Tryz.func25, Tryz.ntmps25
    go_wp2
    go_loopw [5] (fun i wr => ∃ k : Nat, k ≤ xs.length ∧ i = .int .i64 k ∧ Below w.heap.size w wr) (fun i _ => xs.length - (intOf i).toNat)
    case atStart => exact ⟨0, Nat.zero_le _, rfl, Below.refl _ _⟩
    case round =>
      obtain ⟨k, hk, rfl, hb⟩ := hrel
      by_cases hlt : k < xs.length
      · all_goals try (exfalso; omega)
        all_goals
          obtain ⟨x, hx, hcx⟩ := hcell.out k hlt
          obtain ⟨x', hx', hcx'⟩ := hcell'.out k hlt
          obtain rfl : x = x' := by rw [hx] at hx'; exact Option.some.inj hx'
          have hcx := (hb.cell (p := ⟨b, o + k, none⟩) (World.block_lt_of_cell? w _ hcx)).trans hcx
          have hcx' := (hb.cell (p := ⟨b', o' + k, none⟩) (World.block_lt_of_cell? w _ hcx')).trans hcx'
          clear hx hx'
          go_wp2
          go_region
          all_goals
            go_wp2
            go_roundw
            case rel => exact ⟨k + 1, by omega, by go_num, by repeat (first | exact hb | apply Below.drew)⟩
            case measure => simp [intOf]; omega
      · obtain rfl : k = xs.length := by omega
        go_wp2
        go_ret
        exact ⟨rfl, hb⟩

/-- The first n elements of a result's memory are written k, k + 1, .. -/
theorem markInt64S_any (v : Value) (B n : Nat) (xs : List Int) (k0 : Int) (w : World) (h : w.ownsRow B 2 1 v n (xs.map (Value.int .i64))) (hk : 0 ≤ k0) (hk2 : k0 + n ≤ 4611686018427387904) :
    Calls Tryz.prog 27 #[v, .int .i64 k0] w fun e w' => e = .returned (.int .i64 (k0 + n)) ∧ w'.ownsRow B 2 1 v n ((marks k0 n).map (Value.int .i64)) ∧ w.grownBy w' v.ownBlock := by
  have hl : xs.length = n := by have := h.1; simpa using this
  rcases h.2 with ⟨rfl, rfl⟩ | ⟨g, cap, cur, rfl, hB, hg, hnc, hcm, _, _⟩
  · go_enter Tryz.func27, Tryz.ntmps27
    go_wp2
    refine wp_loop_rounds 1 ?_
    rw [rounds_succ]
    go_wp2
    go_ret
    exact ⟨ret_int (by omega), World.ownsRow_nil _ _ _ _, World.grownBy.refl _ _⟩
  · unfold maxLen at hcm
    clear hg
    go_enter Tryz.func27, Tryz.ntmps27
    go_wp2
    go_loopw [1, 5] (fun j i wr => ∃ k : Nat, k ≤ n ∧ i = .int .i64 k ∧ j = .int .i64 (k0 + k) ∧ wr.ownsRow B 2 1 (.slice (some ⟨g, 0, none⟩) n cap) n (((marks k0 n).take k ++ xs.drop k).map (Value.int .i64)) ∧ w.grownBy wr (some g)) (fun _ i _ => n - (intOf i).toNat)
    case atStart => exact ⟨0, Nat.zero_le _, rfl, by go_num, by simpa using h, World.grownBy.refl _ _⟩
    case round =>
      obtain ⟨k, hk', rfl, rfl, ho, hb⟩ := hrel
      by_cases hlt : k < n
      · obtain ⟨⟨z, _, hcz⟩, hfz⟩ := own_cell ho hlt
        have hm := Lib.hid (marks_get k0 n k hlt)
        have ho := Lib.hid ho
        go_wp2
        go_roundw
        case rel => exact ⟨k + 1, by omega, by go_num, by go_num, own_store ho.out hm.out (by omega), ⟨hb.os, hb.tape, hb.output, by simpa using hb.size, fun j hj hne => by rw [Below.heap_setCell _ _ _ _ (by simpa using hne)]; exact hb.block j hj hne⟩⟩
        case measure => simp [intOf]; omega
      · obtain rfl : k = n := by omega
        have ho := Lib.hid ho
        go_wp2
        go_ret
        refine ⟨rfl, ?_, hb⟩
        have := ho.out
        rw [List.drop_of_length_le (by omega), List.append_nil, List.take_of_length_le (by rw [marks_length]; omega)] at this
        exact this

/-- The marks are still there. -/
theorem heldInt64S_any (v : Value) (n : Nat) (k0 : Int) (w : World) (h : Ints w v (marks k0 n)) (hk : 0 ≤ k0) (hk2 : k0 + n ≤ 4611686018427387904) :
    Calls Tryz.prog 28 #[v, .int .i64 k0] w fun e w' => e = .returned (.int .i64 (k0 + n)) ∧ Below w.heap.size w w' := by
  obtain ⟨hm, a, c, b, o, rfl, hc, h0, hcell⟩ := h.opened
  rw [marks_length] at *
  unfold maxLen at hm
  clear h
  rcases h0 with h0 | ⟨h0, rfl⟩
  all_goals
    go_enter Tryz.func28, Tryz.ntmps28
    go_wp2
    go_loopw [1, 5] (fun j i wr => ∃ k : Nat, k ≤ n ∧ i = .int .i64 k ∧ j = .int .i64 (k0 + k) ∧ wr = w) (fun _ i _ => n - (intOf i).toNat)
    case atStart => exact ⟨0, Nat.zero_le _, rfl, by go_num, rfl⟩
    case round =>
      obtain ⟨k, hk', rfl, rfl, rfl⟩ := hrel
      by_cases hlt : k < n
      · all_goals try (exfalso; omega)
        all_goals
          obtain ⟨x, hx, hcx⟩ := hcell.out k hlt
          rw [marks_get k0 n k hlt] at hx
          obtain rfl := Option.some.inj hx
          have hne : (k0 + (k : Int) != k0 + k) = false := by simp
          clear hx
          go_wp2
          go_roundw
          case rel => exact ⟨k + 1, by omega, by go_num, by go_num, trivial⟩
          case measure => simp [intOf]; omega
      · obtain rfl : k = n := by omega
        go_wp2
        go_ret
        exact ⟨rfl, Below.refl _ _⟩

end Go.Proofs.YtmhkcicjbgifnaaGreat
