/- spec.l01Less; spec.l04Code3. -/
import Derived.Test.YtobbhflajkhcdaaClo
import Derived.Test.YtobbhflajkhcdaaCmpI
namespace Go.Proofs.Ytobbhflajkhcdaa
open Go.RowKit
set_option linter.unusedVariables false

set_option maxHeartbeats 2000000 in
theorem l01Less_any (v u : Value) (xs ys : List Int) (w : World) (h : Ints w v xs) (h' : Ints w u ys) :
    Calls Try.prog 28 #[v, u] w fun e w' => e = .returned (.bool (decide (ltI xs ys))) ∧ Below w.heap.size w w' := by
  obtain ⟨hm, a, c, b, o, rfl, hc, h0, hcell⟩ := h.opened
  obtain ⟨hm', a', c', b', o', rfl, hc', h0', hcell'⟩ := h'.opened
  unfold maxLen at hm hm'
  clear h h'
  go_enter Try.func28, Try.ntmps28
  go_wp2_with fail
  go_loopw [5] (fun i wr => ∃ k : Nat, k ≤ xs.length ∧ k ≤ ys.length ∧ i = .int .i64 k ∧ Hid (∀ j, j < k → xs[j]? = ys[j]?) ∧ Below w.heap.size w wr) (fun i _ => xs.length - (intOf i).toNat)
  case atStart => exact ⟨0, Nat.zero_le _, Nat.zero_le _, rfl, fun j hj => by omega, Below.refl _ _⟩
  case round =>
    obtain ⟨k, hk, hk', rfl, hall, hb⟩ := hrel
    by_cases hlt : k < xs.length ∧ k < ys.length
    · obtain ⟨hlt, hlt'⟩ := hlt
      have ha : a = some ⟨b, o, none⟩ := by
        rcases h0 with h | ⟨_, h⟩
        · exact absurd h (by omega)
        · exact h
      subst ha
      have ha' : a' = some ⟨b', o', none⟩ := by
        rcases h0' with h | ⟨_, h⟩
        · exact absurd h (by omega)
        · exact h
      subst ha'
      obtain ⟨x, hx, hcx⟩ := hcell.out k hlt
      obtain ⟨y, hy, hcy⟩ := hcell'.out k hlt'
      have hcx := keep_cell hb hcx
      have hcy := keep_cell hb hcy
      have hx := Lib.hid hx
      have hy := Lib.hid hy
      cases hin : (x != y)
      · have hall2 := Lib.hid (show ∀ j, j < k + 1 → xs[j]? = ys[j]? from fun j hj => by
          rcases Nat.lt_or_ge j k with h1 | h1
          · exact hall.out j h1
          · obtain rfl : j = k := by omega
            obtain rfl : x = y := by simpa using hin
            rw [hx.out, hy.out])
        go_wp2_with fail
        go_region
        all_goals
          go_wp2_with fail
          go_roundw
          case rel => exact ⟨k + 1, by omega, by omega, by go_num, hall2, by repeat (first | exact hb | apply Below.drew)⟩
          case measure => simp [intOf]; omega
      · have hne : x ≠ y := by simpa using hin
        have hr := Lib.hid (show decide (ltI xs ys) = decide (x < y) from by
          rw [Bool.eq_iff_iff, decide_eq_true_eq, decide_eq_true_eq]
          exact ltI_at xs ys k x y hall.out hx.out hy.out hne)
        clear hne
        go_wp2_with fail
        go_region
        all_goals
          go_wp2_with fail
          go_region
          all_goals
            go_wp2_with fail
            go_ret
            exact ⟨ret_bool hr.out.symm, by repeat (first | exact hb | apply Below.drew)⟩
    · have hr := Lib.hid (show decide (ltI xs ys) = decide (xs.length < ys.length) from by
        rw [Bool.eq_iff_iff, decide_eq_true_eq, decide_eq_true_eq]
        exact ltI_pre xs ys (fun j h1 h2 => hall.out j (by omega)))
      by_cases hlx : k < xs.length
      · have hly : ¬ k < ys.length := fun h => hlt ⟨hlx, h⟩
        clear hlt
        go_wp2_with fail
        go_ret
        exact ⟨ret_bool hr.out.symm, hb⟩
      · clear hlt
        go_wp2_with fail
        go_ret
        exact ⟨ret_bool hr.out.symm, hb⟩
theorem code3_small {c : List Int} (h : clauseB c = true) (k : Nat) (hk : k ≤ 6) : code3 c k < 729 := by
  have h0 := digit3_le h 0
  have h1 := digit3_le h 1
  have h2 := digit3_le h 2
  have h3 := digit3_le h 3
  have h4 := digit3_le h 4
  have h5 := digit3_le h 5
  have : k = 0 ∨ k = 1 ∨ k = 2 ∨ k = 3 ∨ k = 4 ∨ k = 5 ∨ k = 6 := by omega
  rcases this with rfl | rfl | rfl | rfl | rfl | rfl | rfl <;> simp only [code3] <;> omega
set_option maxHeartbeats 2000000 in
theorem l04Code3_any (v : Value) (c : List Int) (w : World) (h : Ints w v c) (hc : clauseB c = true) :
    Calls Try.prog 26 #[v] w fun e w' => e = .returned (.int .i64 ((code3 c 6 : Nat) : Int)) ∧ w = w' := by
  have hh := Lib.hid (fun x => l01Has_any v c x w h)
  have hsm := Lib.hid (fun k hk => code3_small hc k hk)
  have hstep := Lib.hid (fun (k : Nat) => show code3 c (k + 1) = code3 c k * 3 + ((if decide (2 * (k : Int) ∈ c) then 1 else 0) + (if decide (2 * (k : Int) + 1 ∈ c) then 2 else 0)) from rfl)
  have h0 := Lib.hid (show code3 c 0 = 0 from rfl)
  generalize code3 c = C at *
  clear h hc
  go_enter Try.func26, Try.ntmps26
  go_wp2_with fail
  go_loop [3, 4] (fun n i => ∃ k m : Nat, k ≤ 6 ∧ m < 729 ∧ i = .int .i64 k ∧ n = .int .i64 m ∧ Hid (m = C k)) (fun _ i => 6 - (intOf i).toNat)
  case atStart => exact ⟨0, 0, by omega, by omega, rfl, rfl, Lib.hid h0.out.symm⟩
  case round =>
    obtain ⟨k, m, hk, hm, rfl, rfl, hmc⟩ := hrel
    by_cases hlt : k < 6
    · have hki : (k : Int) < 6 := by omega
      have hs := hstep.out k
      have hs2 := hsm.out (k + 1) (by omega)
      rw [hs] at hs2
      rw [← hmc.out] at hs hs2
      cases m1 : decide (2 * (k : Int) ∈ c)
      · cases m2 : decide (2 * (k : Int) + 1 ∈ c)
        · rw [m1, m2] at hs hs2
          simp only [Bool.false_eq_true, if_false, Nat.add_zero] at hs hs2
          have hs := Lib.hid hs
          go_wp2_with fail
          refine (hh.out _).mono ?_
          rintro e w1 ⟨rfl, rfl⟩
          rw [m1]
          go_wp2_with fail
          refine (hh.out _).mono ?_
          rintro e w1 ⟨rfl, rfl⟩
          rw [m2]
          go_wp2_with fail
          go_round
          case rel => exact ⟨k + 1, m * 3, by omega, by omega, by go_num, by go_num, Lib.hid hs.out.symm⟩
          case measure => simp [intOf]; omega
        · rw [m1, m2] at hs hs2
          simp only [Bool.false_eq_true, if_false, if_true, Nat.zero_add] at hs hs2
          have hs := Lib.hid hs
          go_wp2_with fail
          refine (hh.out _).mono ?_
          rintro e w1 ⟨rfl, rfl⟩
          rw [m1]
          go_wp2_with fail
          refine (hh.out _).mono ?_
          rintro e w1 ⟨rfl, rfl⟩
          rw [m2]
          go_wp2_with fail
          go_round
          case rel => exact ⟨k + 1, m * 3 + 2, by omega, by omega, by go_num, by go_num, Lib.hid hs.out.symm⟩
          case measure => simp [intOf]; omega
      · cases m2 : decide (2 * (k : Int) + 1 ∈ c)
        · rw [m1, m2] at hs hs2
          simp only [Bool.false_eq_true, if_false, if_true, Nat.add_zero] at hs hs2
          have hs := Lib.hid hs
          go_wp2_with fail
          refine (hh.out _).mono ?_
          rintro e w1 ⟨rfl, rfl⟩
          rw [m1]
          go_wp2_with fail
          refine (hh.out _).mono ?_
          rintro e w1 ⟨rfl, rfl⟩
          rw [m2]
          go_wp2_with fail
          go_round
          case rel => exact ⟨k + 1, m * 3 + 1, by omega, by omega, by go_num, by go_num, Lib.hid hs.out.symm⟩
          case measure => simp [intOf]; omega
        · rw [m1, m2] at hs hs2
          simp only [if_true] at hs hs2
          have hs := Lib.hid hs
          go_wp2_with fail
          refine (hh.out _).mono ?_
          rintro e w1 ⟨rfl, rfl⟩
          rw [m1]
          go_wp2_with fail
          refine (hh.out _).mono ?_
          rintro e w1 ⟨rfl, rfl⟩
          rw [m2]
          go_wp2_with fail
          go_round
          case rel => exact ⟨k + 1, m * 3 + (1 + 2), by omega, by omega, by go_num, by go_num, Lib.hid hs.out.symm⟩
          case measure => simp [intOf]; omega
    · obtain rfl : k = 6 := by omega
      have hf := Lib.hid (show (m : Int) = ((C 6 : Nat) : Int) by rw [hmc.out])
      go_wp2_with fail
      go_ret
      exact ⟨ret_int hf.out, rfl⟩
end Go.Proofs.Ytobbhflajkhcdaa
