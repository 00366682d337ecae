/- Lists of int64: the reference's l01Has, l01Same, l01Less, l01Own; slices.Index, slices.Equal. -/
import Derived.Test.YtdpnkojchimmfaaIntSS
import Derived.Test.YtdpnkojchimmfaaAppendNil
import Derived.Lib.AppendZeros
namespace Go.Proofs.Ytdpnkojchimmfaa
open Go.RowKit

theorem same_get {xs ys : List Int} (hl : xs.length = ys.length) (h : ∀ j, j < xs.length → xs[j]? = ys[j]?) : xs = ys := List.ext_getElem? fun j => by
  rcases Nat.lt_or_ge j xs.length with h1 | h1
  · exact h j h1
  · rw [List.getElem?_eq_none h1, List.getElem?_eq_none (by omega)]
theorem ints_src {w w' : World} {b o K : Nat} {xs : List Int} (h : ∀ k, k < xs.length → ∃ x, xs[k]? = some x ∧ w.cell? ⟨b, o + k, none⟩ = some (.int .i64 x)) (hb : Below K w w') (hk : w.heap.size ≤ K) : ∀ j q, (xs.map (Value.int .i64))[j]? = some q → w'.cell? ((⟨b, o, none⟩ : Addr).add j) = some q := by
  intro j q hq
  rw [List.getElem?_map, Option.map_eq_some_iff] at hq
  obtain ⟨x, hx, rfl⟩ := hq
  obtain ⟨y, hy, hc⟩ := h j (List.getElem?_eq_some_iff.1 hx).1
  rw [hx] at hy
  obtain rfl := Option.some.inj hy
  rw [Addr.add_lit]
  exact (hb.cell (p := ⟨b, o + j, none⟩) (by have h8 : b < w.heap.size := World.block_lt_of_cell? w _ hc; show b < K; omega)).trans hc
theorem ints_oneCell (xs : List Int) : ∀ u ∈ xs.map (Value.int .i64), u.oneCell' = true := by
  intro u hu
  obtain ⟨x, _, rfl⟩ := List.mem_map.1 hu
  rfl
/-- The first place of a number in a list. -/
def firstAt (xs : List Int) (x : Int) (i : Int) : Prop := (i = -1 ∧ x ∉ xs) ∨ ∃ k : Nat, i = k ∧ xs[k]? = some x ∧ ∀ j y, j < k → xs[j]? = some y → y ≠ x

theorem l01Has_any (v : Value) (xs : List Int) (x : Int) (w : World) (h : Ints w v xs) :
    Calls Try.prog 58 #[v, .int .i64 x] w fun e w' => e = .returned (.bool (decide (x ∈ xs))) ∧ w = w' := by
  obtain ⟨hm, a, c, b, o, rfl, hc, h0, hcell⟩ := h.opened
  unfold maxLen at hm
  clear h
  rcases h0 with h0 | ⟨h0, rfl⟩
  all_goals
    go_enter Try.func58, Try.ntmps58
    go_wp2_with fail
    go_loop [5] (fun i => ∃ k : Nat, k ≤ xs.length ∧ i = .int .i64 k ∧ Hid (∀ j y, j < k → xs[j]? = some y → y ≠ x)) (fun i => xs.length - (intOf i).toNat)
    case atStart => exact ⟨0, Nat.zero_le _, rfl, fun j y hj => by omega⟩
    case round =>
      obtain ⟨k, hk, rfl, hall⟩ := hrel
      by_cases hlt : k < xs.length
      · all_goals try (exfalso; omega)
        all_goals
          obtain ⟨y, hy, hcy⟩ := hcell.out k hlt
          have hy := Lib.hid hy
          cases hin : (y == x)
          · have hne := Lib.hid (show y ≠ x by simpa using hin)
            go_wp2_with fail
            go_round
            case rel =>
              refine ⟨k + 1, by omega, by go_num, fun j z hj hz => ?_⟩
              rcases Nat.lt_or_ge j k with h2 | h2
              · exact hall.out j z h2 hz
              · obtain rfl : j = k := by omega
                rw [hy.out] at hz
                obtain rfl := Option.some.inj hz
                exact hne.out
            case measure => simp [intOf]; omega
          · have hf := Lib.hid (show decide (x ∈ xs) = true by
              obtain rfl : y = x := by simpa using hin
              exact decide_eq_true (List.mem_of_getElem? hy.out))
            go_wp2_with fail
            go_ret
            exact ⟨ret_bool hf.out.symm, rfl⟩
      · obtain rfl : k = xs.length := by omega
        have hf := Lib.hid (show decide (x ∈ xs) = false by
          refine decide_eq_false fun hx => ?_
          obtain ⟨j, hj⟩ := List.getElem?_of_mem hx
          exact hall.out j x (List.getElem?_eq_some_iff.1 hj).1 hj rfl)
        go_wp2_with fail
        go_ret
        exact ⟨ret_bool hf.out.symm, rfl⟩



end Go.Proofs.Ytdpnkojchimmfaa
