/- slices.Compare at lists of integers; cmp.Compare at integers. -/
import Derived.Test.YtmhkcicjbgifnaaGreatMMaskOfM
import Derived.Test.YtmhkcicjbgifnaaGreatMIntSS

namespace Go.Proofs.YtmhkcicjbgifnaaGreat
open Go.RowKit
set_option linter.unusedVariables false

def cmpZ (x y : Int) : Int := if x < y then -1 else if y < x then 1 else 0
def cmpI (xs ys : List Int) : Int := if ltI xs ys then -1 else if ltI ys xs then 1 else 0
theorem cmpI_lt {xs ys : List Int} (h : ltI xs ys) : cmpI xs ys = -1 := if_pos h
theorem cmpI_gt {xs ys : List Int} (h : ltI ys xs) : cmpI xs ys = 1 := by unfold cmpI; rw [if_neg (fun h2 => lo_lists.irr _ (lo_lists.tr _ _ _ h h2)), if_pos h]
theorem cmpI_same (xs : List Int) : cmpI xs xs = 0 := by unfold cmpI; rw [if_neg (lo_lists.irr _), if_neg (lo_lists.irr _)]
theorem cmpI_neg {xs ys : List Int} : cmpI xs ys < 0 ↔ ltI xs ys := by
  unfold cmpI
  split
  · rename_i h; exact ⟨fun _ => h, fun _ => by omega⟩
  · rename_i h
    split
    · exact ⟨fun h2 => by omega, fun h2 => absurd h2 h⟩
    · exact ⟨fun h2 => by omega, fun h2 => absurd h2 h⟩

theorem isNaNI_any (x : Int) (w : World) : Calls Tryz.prog 89 #[.int .i64 x] w fun e w' => e = .returned (.bool false) ∧ w = w' := by
  have hx : (x != x) = false := by simp
  go_enter Tryz.func89, Tryz.ntmps89
  go_wp2_with fail
  go_ret
  exact ⟨rfl, rfl⟩
theorem compareZ_any (x y : Int) (w : World) : Calls Tryz.prog 54 #[.int .i64 x, .int .i64 y] w fun e w' => e = .returned (.int .i64 (cmpZ x y)) ∧ w = w' := by
  rcases Int.lt_trichotomy x y with h | h | h
  · have hr : cmpZ x y = -1 := if_pos h
    rw [hr]
    clear hr
    go_enter Tryz.func54, Tryz.ntmps54
    go_wp2_with (go_at_call 89; refine (isNaNI_any _ _).mono ?_; rintro e w' ⟨rfl, rfl⟩)
    go_ret
    exact ⟨rfl, rfl⟩
  · subst h
    have hr : cmpZ x x = 0 := by unfold cmpZ; rw [if_neg (by omega), if_neg (by omega)]
    rw [hr]
    have h1 : ¬ x < x := by omega
    clear hr
    go_enter Tryz.func54, Tryz.ntmps54
    go_wp2_with (go_at_call 89; refine (isNaNI_any _ _).mono ?_; rintro e w' ⟨rfl, rfl⟩)
    go_ret
    exact ⟨rfl, rfl⟩
  · have hr : cmpZ x y = 1 := by unfold cmpZ; rw [if_neg (by omega), if_pos h]
    rw [hr]
    have h1 : ¬ x < y := by omega
    clear hr
    go_enter Tryz.func54, Tryz.ntmps54
    go_wp2_with (go_at_call 89; refine (isNaNI_any _ _).mono ?_; rintro e w' ⟨rfl, rfl⟩)
    go_ret
    exact ⟨rfl, rfl⟩
set_option maxHeartbeats 1000000 in
theorem compareI_any (v u : Value) (xs ys : List Int) (w : World) (h : Ints w v xs) (h' : Ints w u ys) :
    Calls Tryz.prog 24 #[v, u] w fun e w' => e = .returned (.int .i64 (cmpI xs ys)) ∧ w = w' := by
  obtain ⟨hm, a, c, b, o, rfl, hc, h0, hcell⟩ := h.opened
  obtain ⟨hm', a', c', b', o', rfl, hc', h0', hcell'⟩ := h'.opened
  unfold maxLen at hm hm'
  clear h h'
  go_enter Tryz.func24, Tryz.ntmps24
  go_wp2_with fail
  go_loop [11] (fun i => ∃ k : Nat, k ≤ xs.length ∧ k ≤ ys.length ∧ i = .int .i64 k ∧ Hid (∀ j, j < k → xs[j]? = ys[j]?)) (fun i => xs.length - (intOf i).toNat)
  case atStart => exact ⟨0, Nat.zero_le _, Nat.zero_le _, rfl, fun j hj => by omega⟩
  case round =>
    obtain ⟨k, hk, hk', rfl, hall⟩ := hrel
    by_cases hlt : k < xs.length
    · have ha : a = some ⟨b, o, none⟩ := by
        rcases h0 with h | ⟨_, h⟩
        · exact absurd h (by omega)
        · exact h
      subst ha
      obtain ⟨x, hx, hcx⟩ := hcell.out k hlt
      have hx := Lib.hid hx
      by_cases hlt' : k < ys.length
      · have ha' : a' = some ⟨b', o', none⟩ := by
          rcases h0' with h | ⟨_, h⟩
          · exact absurd h (by omega)
          · exact h
        subst ha'
        obtain ⟨y, hy, hcy⟩ := hcell'.out k hlt'
        have hy := Lib.hid hy
        rcases Int.lt_trichotomy x y with h | h | h
        · have hr := Lib.hid (show cmpI xs ys = -1 from cmpI_lt ((ltI_at xs ys k x y hall.out hx.out hy.out (by omega)).2 h))
          have hz := Lib.hid (show cmpZ x y = -1 from if_pos h)
          have hcall := Lib.hid (fun W => compareZ_any x y W)
          rw [hz.out] at hcall
          clear h
          go_wp2_with (go_at_call 54; refine (hcall.out _).mono ?_; rintro e w' ⟨rfl, rfl⟩)
          go_ret
          exact ⟨ret_int hr.out.symm, rfl⟩
        · subst h
          have hz := Lib.hid (show cmpZ x x = 0 by unfold cmpZ; rw [if_neg (by omega), if_neg (by omega)])
          have hcall := Lib.hid (fun W => compareZ_any x x W)
          rw [hz.out] at hcall
          have hall2 := Lib.hid (show ∀ j, j < k + 1 → xs[j]? = ys[j]? from fun j hj => by
            rcases Nat.lt_or_ge j k with h1 | h1
            · exact hall.out j h1
            · obtain rfl : j = k := by omega
              rw [hx.out, hy.out])
          go_wp2_with (go_at_call 54; refine (hcall.out _).mono ?_; rintro e w' ⟨rfl, rfl⟩)
          go_round
          case rel => exact ⟨k + 1, by omega, by omega, by go_num, hall2⟩
          case measure => simp [intOf]; omega
        · have hr := Lib.hid (show cmpI xs ys = 1 from cmpI_gt ((ltI_at ys xs k y x (fun j hj => (hall.out j hj).symm) hy.out hx.out (by omega)).2 h))
          have hz := Lib.hid (show cmpZ x y = 1 by unfold cmpZ; rw [if_neg (by omega), if_pos h])
          have hcall := Lib.hid (fun W => compareZ_any x y W)
          rw [hz.out] at hcall
          clear h
          go_wp2_with (go_at_call 54; refine (hcall.out _).mono ?_; rintro e w' ⟨rfl, rfl⟩)
          go_ret
          exact ⟨ret_int hr.out.symm, rfl⟩
      · have hr := Lib.hid (show cmpI xs ys = 1 from cmpI_gt ((ltI_pre ys xs (fun j h1 h2 => (hall.out j (by omega)).symm)).2 (by omega)))
        go_wp2_with fail
        go_ret
        exact ⟨ret_int hr.out.symm, rfl⟩
    · have hke : k = xs.length := by omega
      subst hke
      by_cases hll : xs.length < ys.length
      · have hr := Lib.hid (show cmpI xs ys = -1 from cmpI_lt ((ltI_pre xs ys (fun j h1 h2 => hall.out j h1)).2 hll))
        go_wp2_with fail
        go_ret
        exact ⟨ret_int hr.out.symm, rfl⟩
      · have hr := Lib.hid (show cmpI xs ys = 0 by
          have e : xs = ys := same_get (by omega) hall.out
          rw [e]; exact cmpI_same ys)
        go_wp2_with fail
        go_ret
        exact ⟨ret_int hr.out.symm, rfl⟩
end Go.Proofs.YtmhkcicjbgifnaaGreat
