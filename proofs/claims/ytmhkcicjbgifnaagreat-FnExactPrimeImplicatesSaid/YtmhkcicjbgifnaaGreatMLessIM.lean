/- The reference's small functions on clauses and rows: l04Holds, l04Each, l04Some, l04Within. -/
import Derived.Test.YtmhkcicjbgifnaaGreatMPrimeMath
import Derived.Test.YtmhkcicjbgifnaaGreatMListFns
import Derived.Test.YtmhkcicjbgifnaaGreatMTermM
import Derived.Test.YtmhkcicjbgifnaaGreatMClo
import Derived.Test.YtmhkcicjbgifnaaGreatMCmpI

namespace Go.Proofs.YtmhkcicjbgifnaaGreat
open Go.RowKit Go.Deep
set_option linter.unusedVariables false
set_option linter.unusedSimpArgs false

theorem litB_bit (l : Int) (r : Nat) : litB l r = (hasB (r : Int) (l / 2) == (l % 2 == 0)) := by
  unfold litB hasB
  rw [show (l % 2 == 0) = decide (l % 2 = 0) by rw [Bool.eq_iff_iff]; simp]
  simp
theorem l04Holds_any (l : Int) (r : Nat) (h0 : 0 ≤ l) (h1 : l ≤ 11) (hr : r < 64) (w : World) :
    Calls Tryz.prog 58 #[.int .i64 l, .int .i64 r] w fun e w' => e = .returned (.bool (litB l r)) ∧ w = w' := by
  have hb := Lib.hid (fun w => l01Bit_any (r : Int) (l / 2) (by omega) (by omega) (by omega) (by omega) w)
  have hl := Lib.hid (litB_bit l r)
  generalize hasB (r : Int) (l / 2) = t at *
  go_enter Tryz.func58, Tryz.ntmps58
  go_wp2_with fail
  refine (hb.out _).mono ?_
  rintro e w' ⟨rfl, rfl⟩
  go_wp2_with fail
  go_ret
  exact ⟨ret_bool hl.out.symm, rfl⟩
set_option maxHeartbeats 1000000 in
theorem l04Each_any (v : Value) (xs : List Int) (r : Nat) (w : World) (h : Ints w v xs) (hx : ∀ x ∈ xs, 0 ≤ x ∧ x ≤ 11) (hr : r < 64) :
    Calls Tryz.prog 33 #[v, .int .i64 r] w fun e w' => e = .returned (.bool (termB xs r)) ∧ w = w' := by
  obtain ⟨hm, a, c, b, o, rfl, hc, h0, hcell⟩ := h.opened
  unfold maxLen at hm
  clear h
  rcases h0 with h0 | ⟨h0, rfl⟩
  all_goals
    go_enter Tryz.func33, Tryz.ntmps33
    go_wp2_with fail
    go_loop [5] (fun i => ∃ k : Nat, k ≤ xs.length ∧ i = .int .i64 k ∧ Hid (∀ j y, j < k → xs[j]? = some y → litB y r = true)) (fun i => xs.length - (intOf i).toNat)
    case atStart => exact ⟨0, Nat.zero_le _, rfl, fun j y hj => by omega⟩
    case round =>
      obtain ⟨k, hk, rfl, hall⟩ := hrel
      by_cases hlt : k < xs.length
      · all_goals try (exfalso; omega)
        all_goals
          obtain ⟨y, hy, hcy⟩ := hcell.out k hlt
          obtain ⟨y0, y1⟩ := hx y (List.mem_of_getElem? hy)
          have hh := Lib.hid (fun w => l04Holds_any y r y0 y1 hr w)
          have hy := Lib.hid hy
          cases hin : litB y r
          · have hf := Lib.hid (show termB xs r = false by
              unfold termB
              exact all_bad hy.out hin)
            rw [hin] at hh
            clear hin
            go_wp2_with fail
            refine (hh.out _).mono ?_
            rintro e w' ⟨rfl, rfl⟩
            go_wp2_with fail
            go_ret
            exact ⟨ret_bool hf.out.symm, rfl⟩
          · have hin2 := Lib.hid hin
            rw [hin] at hh
            clear hin
            go_wp2_with fail
            refine (hh.out _).mono ?_
            rintro e w' ⟨rfl, rfl⟩
            go_wp2_with fail
            go_round
            case rel =>
              refine ⟨k + 1, by omega, by go_num, fun j z hj hz => ?_⟩
              rcases Nat.lt_or_ge j k with h2 | h2
              · exact hall.out j z h2 hz
              · obtain rfl : j = k := by omega
                rw [hy.out] at hz
                obtain rfl := Option.some.inj hz
                exact hin2.out
            case measure => simp [intOf]; omega
      · obtain rfl : k = xs.length := by omega
        have hf := Lib.hid (show termB xs r = true by
          unfold termB
          exact all_good fun i x hi hx => hall.out i x hi hx)
        go_wp2_with fail
        go_ret
        exact ⟨ret_bool hf.out.symm, rfl⟩
set_option maxHeartbeats 1000000 in
theorem l04Some_any (v : Value) (xs : List Int) (r : Nat) (w : World) (h : Ints w v xs) (hx : ∀ x ∈ xs, 0 ≤ x ∧ x ≤ 11) (hr : r < 64) :
    Calls Tryz.prog 34 #[v, .int .i64 r] w fun e w' => e = .returned (.bool (someB xs r)) ∧ w = w' := by
  obtain ⟨hm, a, c, b, o, rfl, hc, h0, hcell⟩ := h.opened
  unfold maxLen at hm
  clear h
  rcases h0 with h0 | ⟨h0, rfl⟩
  all_goals
    go_enter Tryz.func34, Tryz.ntmps34
    go_wp2_with fail
    go_loop [5] (fun i => ∃ k : Nat, k ≤ xs.length ∧ i = .int .i64 k ∧ Hid (∀ j y, j < k → xs[j]? = some y → litB y r = false)) (fun i => xs.length - (intOf i).toNat)
    case atStart => exact ⟨0, Nat.zero_le _, rfl, fun j y hj => by omega⟩
    case round =>
      obtain ⟨k, hk, rfl, hall⟩ := hrel
      by_cases hlt : k < xs.length
      · all_goals try (exfalso; omega)
        all_goals
          obtain ⟨y, hy, hcy⟩ := hcell.out k hlt
          obtain ⟨y0, y1⟩ := hx y (List.mem_of_getElem? hy)
          have hh := Lib.hid (fun w => l04Holds_any y r y0 y1 hr w)
          have hy := Lib.hid hy
          cases hin : litB y r
          · have hin2 := Lib.hid hin
            rw [hin] at hh
            clear hin
            go_wp2_with fail
            refine (hh.out _).mono ?_
            rintro e w' ⟨rfl, rfl⟩
            go_wp2_with fail
            go_round
            case rel =>
              refine ⟨k + 1, by omega, by go_num, fun j z hj hz => ?_⟩
              rcases Nat.lt_or_ge j k with h2 | h2
              · exact hall.out j z h2 hz
              · obtain rfl : j = k := by omega
                rw [hy.out] at hz
                obtain rfl := Option.some.inj hz
                exact hin2.out
            case measure => simp [intOf]; omega
          · have hf := Lib.hid (show someB xs r = true by
              unfold someB
              exact any_yes hy.out hin)
            rw [hin] at hh
            clear hin
            go_wp2_with fail
            refine (hh.out _).mono ?_
            rintro e w' ⟨rfl, rfl⟩
            go_wp2_with fail
            go_ret
            exact ⟨ret_bool hf.out.symm, rfl⟩
      · obtain rfl : k = xs.length := by omega
        have hf := Lib.hid (show someB xs r = false by
          unfold someB
          exact any_no fun i x hi hx => hall.out i x hi hx)
        go_wp2_with fail
        go_ret
        exact ⟨ret_bool hf.out.symm, rfl⟩
def subB (xs ys : List Int) : Bool := xs.all fun x => decide (x ∈ ys)
theorem subB_iff {xs ys : List Int} : subB xs ys = true ↔ ∀ x ∈ xs, x ∈ ys := by simp [subB]
set_option maxHeartbeats 1000000 in
theorem l04Within_any (v u : Value) (xs ys : List Int) (w : World) (h : Ints w v xs) (hu : Ints w u ys) :
    Calls Tryz.prog 32 #[v, u] w fun e w' => e = .returned (.bool (subB xs ys)) ∧ w = w' := by
  obtain ⟨hm, a, c, b, o, rfl, hc, h0, hcell⟩ := h.opened
  have hhas := Lib.hid (fun x => l01Has_any u ys x w hu)
  unfold maxLen at hm
  clear h hu
  rcases h0 with h0 | ⟨h0, rfl⟩
  all_goals
    go_enter Tryz.func32, Tryz.ntmps32
    go_wp2_with fail
    go_loop [5] (fun i => ∃ k : Nat, k ≤ xs.length ∧ i = .int .i64 k ∧ Hid (∀ j y, j < k → xs[j]? = some y → decide (y ∈ ys) = true)) (fun i => xs.length - (intOf i).toNat)
    case atStart => exact ⟨0, Nat.zero_le _, rfl, fun j y hj => by omega⟩
    case round =>
      obtain ⟨k, hk, rfl, hall⟩ := hrel
      by_cases hlt : k < xs.length
      · all_goals try (exfalso; omega)
        all_goals
          obtain ⟨y, hy, hcy⟩ := hcell.out k hlt
          have hh := Lib.hid (hhas.out y)
          have hy := Lib.hid hy
          cases hin : decide (y ∈ ys)
          · have hf := Lib.hid (show subB xs ys = false by
              unfold subB
              exact all_bad hy.out hin)
            rw [hin] at hh
            clear hin
            go_wp2_with fail
            refine (hh.out).mono ?_
            rintro e w' ⟨rfl, rfl⟩
            go_wp2_with fail
            go_ret
            exact ⟨ret_bool hf.out.symm, rfl⟩
          · have hin2 := Lib.hid hin
            rw [hin] at hh
            clear hin
            go_wp2_with fail
            refine (hh.out).mono ?_
            rintro e w' ⟨rfl, rfl⟩
            go_wp2_with fail
            go_round
            case rel =>
              refine ⟨k + 1, by omega, by go_num, fun j z hj hz => ?_⟩
              rcases Nat.lt_or_ge j k with h2 | h2
              · exact hall.out j z h2 hz
              · obtain rfl : j = k := by omega
                rw [hy.out] at hz
                obtain rfl := Option.some.inj hz
                exact hin2.out
            case measure => simp [intOf]; omega
      · obtain rfl : k = xs.length := by omega
        have hf := Lib.hid (show subB xs ys = true by
          unfold subB
          exact all_good fun i x hi hx => hall.out i x hi hx)
        go_wp2_with fail
        go_ret
        exact ⟨ret_bool hf.out.symm, rfl⟩
end Go.Proofs.YtmhkcicjbgifnaaGreat

/- spec.l01Less; spec.l04Code3. -/
namespace Go.Proofs.YtmhkcicjbgifnaaGreat
open Go.RowKit
set_option linter.unusedVariables false

set_option maxHeartbeats 2000000 in
theorem l01Less_any (v u : Value) (xs ys : List Int) (w : World) (h : Ints w v xs) (h' : Ints w u ys) :
    Calls Tryz.prog 59 #[v, u] w fun e w' => e = .returned (.bool (decide (ltI xs ys))) ∧ Below w.heap.size w w' := by
  obtain ⟨hm, a, c, b, o, rfl, hc, h0, hcell⟩ := h.opened
  obtain ⟨hm', a', c', b', o', rfl, hc', h0', hcell'⟩ := h'.opened
  unfold maxLen at hm hm'
  clear h h'
  go_enter Tryz.func59, Tryz.ntmps59
  go_wp2_with fail
  go_loopw [5] (fun i wr => ∃ k : Nat, k ≤ xs.length ∧ k ≤ ys.length ∧ i = .int .i64 k ∧ Hid (∀ j, j < k → xs[j]? = ys[j]?) ∧ Below w.heap.size w wr) (fun i _ => xs.length - (intOf i).toNat)
  case atStart => exact ⟨0, Nat.zero_le _, Nat.zero_le _, rfl, fun j hj => by omega, Below.refl _ _⟩
  case round =>
    obtain ⟨k, hk, hk', rfl, hall, hb⟩ := hrel
    by_cases hlt : k < xs.length ∧ k < ys.length
    · obtain ⟨hlt, hlt'⟩ := hlt
      have ha : a = some ⟨b, o, none⟩ := by
        rcases h0 with h | ⟨_, h⟩
        · exact absurd h (by omega)
        · exact h
      subst ha
      have ha' : a' = some ⟨b', o', none⟩ := by
        rcases h0' with h | ⟨_, h⟩
        · exact absurd h (by omega)
        · exact h
      subst ha'
      obtain ⟨x, hx, hcx⟩ := hcell.out k hlt
      obtain ⟨y, hy, hcy⟩ := hcell'.out k hlt'
      have hcx := keep_cell hb hcx
      have hcy := keep_cell hb hcy
      have hx := Lib.hid hx
      have hy := Lib.hid hy
      cases hin : (x != y)
      · have hall2 := Lib.hid (show ∀ j, j < k + 1 → xs[j]? = ys[j]? from fun j hj => by
          rcases Nat.lt_or_ge j k with h1 | h1
          · exact hall.out j h1
          · obtain rfl : j = k := by omega
            obtain rfl : x = y := by simpa using hin
            rw [hx.out, hy.out])
        go_wp2_with fail
        go_region
        all_goals
          go_wp2_with fail
          go_roundw
          case rel => exact ⟨k + 1, by omega, by omega, by go_num, hall2, by repeat (first | exact hb | apply Below.drew)⟩
          case measure => simp [intOf]; omega
      · have hne : x ≠ y := by simpa using hin
        have hr := Lib.hid (show decide (ltI xs ys) = decide (x < y) from by
          rw [Bool.eq_iff_iff, decide_eq_true_eq, decide_eq_true_eq]
          exact ltI_at xs ys k x y hall.out hx.out hy.out hne)
        clear hne
        go_wp2_with fail
        go_region
        all_goals
          go_wp2_with fail
          go_region
          all_goals
            go_wp2_with fail
            go_ret
            exact ⟨ret_bool hr.out.symm, by repeat (first | exact hb | apply Below.drew)⟩
    · have hr := Lib.hid (show decide (ltI xs ys) = decide (xs.length < ys.length) from by
        rw [Bool.eq_iff_iff, decide_eq_true_eq, decide_eq_true_eq]
        exact ltI_pre xs ys (fun j h1 h2 => hall.out j (by omega)))
      by_cases hlx : k < xs.length
      · have hly : ¬ k < ys.length := fun h => hlt ⟨hlx, h⟩
        clear hlt
        go_wp2_with fail
        go_ret
        exact ⟨ret_bool hr.out.symm, hb⟩
      · clear hlt
        go_wp2_with fail
        go_ret
        exact ⟨ret_bool hr.out.symm, hb⟩
end Go.Proofs.YtmhkcicjbgifnaaGreat
