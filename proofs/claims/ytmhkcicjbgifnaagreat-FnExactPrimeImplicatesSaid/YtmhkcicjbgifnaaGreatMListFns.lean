/- Lists of int64: the reference's l01Has, l01Same, l01Less, l01Own; slices.Index, slices.Equal. -/
import Derived.Test.YtmhkcicjbgifnaaGreatMIntSS
import Derived.Test.YtmhkcicjbgifnaaGreatMAppendNilM
import Derived.Lib.AppendZeros

namespace Go.Proofs.YtmhkcicjbgifnaaGreat
open Go.RowKit

theorem same_get {xs ys : List Int} (hl : xs.length = ys.length) (h : ∀ j, j < xs.length → xs[j]? = ys[j]?) : xs = ys := List.ext_getElem? fun j => by
  rcases Nat.lt_or_ge j xs.length with h1 | h1
  · exact h j h1
  · rw [List.getElem?_eq_none h1, List.getElem?_eq_none (by omega)]
theorem ints_src {w w' : World} {b o K : Nat} {xs : List Int} (h : ∀ k, k < xs.length → ∃ x, xs[k]? = some x ∧ w.cell? ⟨b, o + k, none⟩ = some (.int .i64 x)) (hb : Below K w w') (hk : w.heap.size ≤ K) : ∀ j q, (xs.map (Value.int .i64))[j]? = some q → w'.cell? ((⟨b, o, none⟩ : Addr).add j) = some q := by
  intro j q hq
  rw [List.getElem?_map, Option.map_eq_some_iff] at hq
  obtain ⟨x, hx, rfl⟩ := hq
  obtain ⟨y, hy, hc⟩ := h j (List.getElem?_eq_some_iff.1 hx).1
  rw [hx] at hy
  obtain rfl := Option.some.inj hy
  rw [Addr.add_lit]
  exact (hb.cell (p := ⟨b, o + j, none⟩) (by have h8 : b < w.heap.size := World.block_lt_of_cell? w _ hc; show b < K; omega)).trans hc
theorem ints_oneCell (xs : List Int) : ∀ u ∈ xs.map (Value.int .i64), u.oneCell' = true := by
  intro u hu
  obtain ⟨x, _, rfl⟩ := List.mem_map.1 hu
  rfl
/-- The first place of a number in a list. -/
def firstAt (xs : List Int) (x : Int) (i : Int) : Prop := (i = -1 ∧ x ∉ xs) ∨ ∃ k : Nat, i = k ∧ xs[k]? = some x ∧ ∀ j y, j < k → xs[j]? = some y → y ≠ x

theorem l01Has_any (v : Value) (xs : List Int) (x : Int) (w : World) (h : Ints w v xs) :
    Calls Tryz.prog 57 #[v, .int .i64 x] w fun e w' => e = .returned (.bool (decide (x ∈ xs))) ∧ w = w' := by
  obtain ⟨hm, a, c, b, o, rfl, hc, h0, hcell⟩ := h.opened
  unfold maxLen at hm
  clear h
  rcases h0 with h0 | ⟨h0, rfl⟩
  all_goals
    go_enter Tryz.func57, Tryz.ntmps57
    go_wp2_with fail
    go_loop [5] (fun i => ∃ k : Nat, k ≤ xs.length ∧ i = .int .i64 k ∧ Hid (∀ j y, j < k → xs[j]? = some y → y ≠ x)) (fun i => xs.length - (intOf i).toNat)
    case atStart => exact ⟨0, Nat.zero_le _, rfl, fun j y hj => by omega⟩
    case round =>
      obtain ⟨k, hk, rfl, hall⟩ := hrel
      by_cases hlt : k < xs.length
      · all_goals try (exfalso; omega)
        all_goals
          obtain ⟨y, hy, hcy⟩ := hcell.out k hlt
          have hy := Lib.hid hy
          cases hin : (y == x)
          · have hne := Lib.hid (show y ≠ x by simpa using hin)
            go_wp2_with fail
            go_round
            case rel =>
              refine ⟨k + 1, by omega, by go_num, fun j z hj hz => ?_⟩
              rcases Nat.lt_or_ge j k with h2 | h2
              · exact hall.out j z h2 hz
              · obtain rfl : j = k := by omega
                rw [hy.out] at hz
                obtain rfl := Option.some.inj hz
                exact hne.out
            case measure => simp [intOf]; omega
          · have hf := Lib.hid (show decide (x ∈ xs) = true by
              obtain rfl : y = x := by simpa using hin
              exact decide_eq_true (List.mem_of_getElem? hy.out))
            go_wp2_with fail
            go_ret
            exact ⟨ret_bool hf.out.symm, rfl⟩
      · obtain rfl : k = xs.length := by omega
        have hf := Lib.hid (show decide (x ∈ xs) = false by
          refine decide_eq_false fun hx => ?_
          obtain ⟨j, hj⟩ := List.getElem?_of_mem hx
          exact hall.out j x (List.getElem?_eq_some_iff.1 hj).1 hj rfl)
        go_wp2_with fail
        go_ret
        exact ⟨ret_bool hf.out.symm, rfl⟩


set_option maxHeartbeats 1000000 in
theorem l01Same_any (v u : Value) (xs ys : List Int) (w : World) (h : Ints w v xs) (h' : Ints w u ys) :
    Calls Tryz.prog 60 #[v, u] w fun e w' => e = .returned (.bool (decide (xs = ys))) ∧ Below w.heap.size w w' := by
  obtain ⟨hm, a, c, b, o, rfl, hc, h0, hcell⟩ := h.opened
  obtain ⟨_, a', c', b', o', rfl, hc', h0', hcell'⟩ := h'.opened
  unfold maxLen at hm
  clear h h'
  by_cases hl : xs.length = ys.length
  · have hlh := Lib.hid hl
    rw [← hl] at hc' h0' hcell' ⊢
    clear hl
    have hz : xs.length ≤ 0 ∨ (0 < xs.length ∧ a = some ⟨b, o, none⟩ ∧ a' = some ⟨b', o', none⟩) := by
      rcases h0 with h0 | ⟨h0, e⟩
      · exact .inl h0
      · rcases h0' with h1 | ⟨_, e'⟩
        · omega
        · exact .inr ⟨h0, e, e'⟩
    clear h0 h0'
    rcases hz with h0 | ⟨h0, rfl, rfl⟩
    all_goals
      go_enter Tryz.func60, Tryz.ntmps60
      go_wp2_with fail
      go_loopw [5] (fun i wr => ∃ k : Nat, k ≤ xs.length ∧ i = .int .i64 k ∧ Hid (∀ j, j < k → xs[j]? = ys[j]?) ∧ Below w.heap.size w wr) (fun i _ => xs.length - (intOf i).toNat)
      case atStart => exact ⟨0, Nat.zero_le _, rfl, fun j hj => by omega, Below.refl _ _⟩
      case round =>
        obtain ⟨k, hk, rfl, hall, hb⟩ := hrel
        by_cases hlt : k < xs.length
        · all_goals try (exfalso; omega)
          all_goals
            obtain ⟨x, hx, hcx⟩ := hcell.out k hlt
            obtain ⟨y, hy, hcy⟩ := hcell'.out k hlt
            have hcx := (hb.cell (p := ⟨b, o + k, none⟩) (World.block_lt_of_cell? w _ hcx)).trans hcx
            have hcy := (hb.cell (p := ⟨b', o' + k, none⟩) (World.block_lt_of_cell? w _ hcy)).trans hcy
            have hx := Lib.hid hx
            have hy := Lib.hid hy
            cases hin : (x != y)
            · have he := Lib.hid (show xs[k]? = ys[k]? by
                obtain rfl : x = y := by simpa using hin
                rw [hx.out, hy.out])
              go_wp2_with fail
              go_region
              all_goals
                go_wp2_with fail
                go_roundw
                case rel =>
                  refine ⟨k + 1, by omega, by go_num, fun j hj => ?_, by repeat (first | exact hb | apply Below.drew)⟩
                  rcases Nat.lt_or_ge j k with h2 | h2
                  · exact hall.out j h2
                  · obtain rfl : j = k := by omega
                    exact he.out
                case measure => simp [intOf]; omega
            · have hf := Lib.hid (show decide (xs = ys) = false from decide_eq_false fun e => by
                have h1 := hx.out
                rw [e, hy.out] at h1
                obtain rfl := Option.some.inj h1
                simp at hin)
              go_wp2_with fail
              go_region
              all_goals
                go_wp2_with fail
                go_ret
                exact ⟨ret_bool hf.out.symm, by repeat (first | exact hb | apply Below.drew)⟩
        · obtain rfl : k = xs.length := by omega
          have hf := Lib.hid (show decide (xs = ys) = true from decide_eq_true (same_get hlh.out hall.out))
          go_wp2_with fail
          go_ret
          exact ⟨ret_bool hf.out.symm, hb⟩
  · have hf := Lib.hid (show decide (xs = ys) = false from decide_eq_false fun e => hl (by rw [e]))
    have hne : ((xs.length : Int) != (ys.length : Int)) = true := by rw [bne_iff_ne]; omega
    go_enter Tryz.func60, Tryz.ntmps60
    go_wp2_with fail
    go_ret
    exact ⟨ret_bool hf.out.symm, Below.refl _ _⟩

set_option maxHeartbeats 1000000 in
theorem l01Own_any (v : Value) (xs : List Int) (w : World) (h : Ints w v xs) (hn : xs.length ≤ 1000000) :
    Calls Tryz.prog 56 #[v] w fun e w' => ∃ v', e = .returned v' ∧ w'.ownsRow w.heap.size 2 1 v' xs.length (xs.map (Value.int .i64)) ∧ Below w.heap.size w w' := by
  obtain ⟨i0, hi, hz0, hz1, hz2⟩ := info_parts info_i64
  obtain ⟨hm, a, c, b, o, rfl, hc, h0, hcell⟩ := h.opened
  have hl0 := Lib.hid (World.ownsRow_lit (e := 2) (base := w.heap.size) (size := 1) w #[] 0 (Nat.le_refl _) (by simp [maxLen]) rfl)
  have hba := Lib.hid ((Below.refl w.heap.size w).alloc (Nat.le_refl _) (.cells #[] 2))
  have hsrc := Lib.hid (ints_src hcell.out hba.out (Nat.le_refl _))
  have hone := Lib.hid (ints_oneCell xs)
  clear h
  rcases h0 with h0 | ⟨h0, rfl⟩
  · obtain rfl : xs = [] := List.eq_nil_of_length_eq_zero (by omega)
    clear hsrc hone h0
    cases a with
    | none =>
      go_enter Tryz.func56, Tryz.ntmps56
      go_wp2_with (at_builtin; refine wpList_append_none rfl _ _ 48 rfl 2 i0 Tryz.underlying48 hi _ _ _ _ rfl rfl (Nat.le_refl _) ?_)
      go_ret
      exact ⟨_, rfl, hl0.out, hba.out⟩
    | some q =>
      have hsrc0 := Lib.hid (show ∀ (j : Nat) (u : Value), ([] : List Value)[j]? = some u → (w.alloc (.cells #[] 2)).cell? (q.add j) = some u from fun j u hu => by simp at hu)
      go_enter Tryz.func56, Tryz.ntmps56
      go_wp2_with (at_builtin; refine wpList_append_own _ rfl _ _ 48 rfl w.heap.size 2 i0 (.int .i64 0) 1 8 Tryz.underlying48 hi hz0 hz1 hz2 rfl (by decide) _ _ _ rfl hl0.out q 0 c [] rfl rfl hsrc0.out (fun u hu => absurd hu List.not_mem_nil) (by unfold maxLen; omega) (by omega) (by simp) ?_; intro v' w1 hown' hgrow _)
      go_ret
      refine ⟨v', rfl, ?_, hba.out.grown hgrow (by simp) (fun j hj => (hl0.out.lt j hj).1)⟩
      exact hown'
  · generalize hm2 : xs.length = m at *
    have hlen := Lib.hid (show (xs.map (Value.int .i64)).length = m * 1 by simp [hm2])
    have hm2 := Lib.hid hm2
    go_enter Tryz.func56, Tryz.ntmps56
    go_wp2_with (at_builtin; refine wpList_append_own _ rfl _ _ 48 rfl w.heap.size 2 i0 (.int .i64 0) 1 8 Tryz.underlying48 hi hz0 hz1 hz2 rfl (by decide) _ _ _ rfl hl0.out ⟨b, o, none⟩ m c (xs.map (Value.int .i64)) rfl hlen.out hsrc.out hone.out (by unfold maxLen; omega) (by omega) (by simp) ?_; intro v' w1 hown' hgrow _)
    go_ret
    refine ⟨v', rfl, ?_, hba.out.grown hgrow (by simp) (fun j hj => (hl0.out.lt j hj).1)⟩
    rw [Nat.zero_add] at hown'
    exact hown'
end Go.Proofs.YtmhkcicjbgifnaaGreat
