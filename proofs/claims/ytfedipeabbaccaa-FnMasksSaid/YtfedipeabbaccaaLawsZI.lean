/- The law FnMasks' own walk. -/
import Derived.Test.YtfedipeabbaccaaDrawTwo
import Derived.Test.YtfedipeabbaccaaMaskLaw
import Derived.Test.YtfedipeabbaccaaLike
namespace Go.Proofs.Ytfedipeabbaccaa
open Go.RowKit

theorem big_any (a : Option Addr) (n c : Nat) (w : World) (h : n ≤ 9223372036854775807) :
    Calls Try.prog 21 #[.slice a n c] w fun e w' => e = .returned (.bool (decide (4096 < n))) ∧ w = w' := by
  by_cases hn : 4096 < n
  · have hd := Lib.hid (show decide (4096 < n) = true from decide_eq_true hn)
    go_enter Try.func21, Try.ntmps21
    go_wp2_with fail
    go_ret
    exact ⟨ret_bool (by rw [hd.out]; simp; omega), rfl⟩
  · have hd := Lib.hid (show decide (4096 < n) = false from decide_eq_false hn)
    go_enter Try.func21, Try.ntmps21
    go_wp2_with fail
    go_ret
    exact ⟨ret_bool (by rw [hd.out]; simp; omega), rfl⟩

theorem pop_mem {n m : Int} (h : maskCode n m = 0) : countR n m = ((mem m).length : Nat) ∧ membersR n m = mem m := by
  unfold countR membersR
  rw [if_pos h, if_pos h]
  exact ⟨pop_small h, rfl⟩

theorem list_len {w : World} {B : Nat} {e : TypeId} {v : Value} {n : Nat} {xs : List Value} (h : w.ownsRow B e 1 v n xs) : ∃ a c, v = .slice a n c ∧ n ≤ maxLen := by
  rcases h.2 with ⟨rfl, rfl⟩ | ⟨g, cap, cur, rfl, _, _, h1, h2, _⟩
  · exact ⟨none, 0, rfl, by simp⟩
  · exact ⟨_, _, rfl, Nat.le_trans h1 h2⟩

set_option maxHeartbeats 2000000 in
theorem w_FnMasks (v : Value) (zs : List Int) (w : World) (hB : Bytes w v zs) :
    Calls Try.prog 6 #[v] w fun e w' => e = .returned (.bool true) ∧ Below w.heap.size w w' := by
  obtain ⟨hcap, a, c, b, o, rfl, hc, _, _⟩ := hB.opened
  unfold maxLen at hcap
  have hB := Lib.hid hB
  have hbig := Lib.hid (fun W => big_any a zs.length c W hcap)
  by_cases hL : 4096 < zs.length
  · have hd := Lib.hid (show decide (4096 < zs.length) = true from decide_eq_true hL)
    go_enter Try.func6, Try.ntmps6
    go_wp2_with fail
    refine (hbig.out _).mono ?_
    rintro e w' ⟨rfl, rfl⟩
    rw [hd.out]
    go_wp2_with fail
    go_ret
    exact ⟨rfl, Below.refl _ _⟩
  have hd := Lib.hid (show decide (4096 < zs.length) = false from decide_eq_false hL)
  have hdraw := Lib.hid (drawSubMasks_any (.slice a zs.length c) zs w hB.out (by omega))
  go_enter Try.func6, Try.ntmps6
  go_wp2_with fail
  refine (hbig.out _).mono ?_
  rintro e w' ⟨rfl, rfl⟩
  rw [hd.out]
  go_wp2_with fail
  refine hdraw.out.mono ?_
  rintro e w1 ⟨⟨n, m, rfl⟩, b1⟩
  clear hd hbig hdraw hL hB hc hcap
  go_wp2_with fail
  refine (implSubMasks_any n m _).mono ?_
  rintro e w2 ⟨v2, rfl, o2, b2⟩
  have B2 := keep_step b2 b1
  go_wp2_with fail
  refine (specSubMasks_any n m _).mono ?_
  rintro e w3 ⟨v3, rfl, o3, b3⟩
  have o2 := own_below o2 b3 (Nat.le_refl _)
  have B3 := keep_step b3 B2
  obtain ⟨a2, c2, hs2, hm2⟩ := list_len o2
  subst hs2
  have hlike := Lib.hid (likeInts_same _ _ (subR n m) w3 (ints_of_own o2) (ints_of_own o3))
  clear o2 o3 b1 b2 b3 B2
  by_cases h0 : subCode n m = 0
  · obtain ⟨g1, g2, g3⟩ := sub_size h0
    obtain ⟨p1, p2⟩ := pop_mem g1
    obtain ⟨q1, q2⟩ := members_back g1
    have hmem := Lib.hid (fun W => show Calls Try.prog 26 #[.int .i64 n, .int .i64 m] W fun e w' => ∃ v, e = .returned (.tuple #[v, .int .i64 0]) ∧ w'.ownsRow W.heap.size 2 1 v (mem m).length ((mem m).map (Value.int .i64)) ∧ Below W.heap.size W w' from by
      have h9 := implMembersOf_any n m W
      rw [g1, p2] at h9
      exact h9)
    have hcnt := Lib.hid (fun W => show Calls Try.prog 27 #[.int .i64 n, .int .i64 m] W fun e w' => e = .returned (.tuple #[.int .i64 ((mem m).length : Nat), .int .i64 0]) ∧ W = w' from by
      have h9 := implCountMembers_any n m W
      rw [g1, p1] at h9
      exact h9)
    have hback := Lib.hid (fun v W (h : Ints W v (mem m)) => show Calls Try.prog 28 #[.int .i64 n, v] W fun e w' => e = .returned (.tuple #[.int .i64 m, .int .i64 0]) ∧ W = w' from by
      have h9 := implMaskOf_any n v (mem m) W h
      rw [q1, q2] at h9
      exact h9)
    rw [h0]
    clear h0 g1 p1 p2 q1 q2
    generalize hR : (subR n m).length = RL at *
    generalize hM : mem m = M at *
    clear hR hM
    replace g3 := Lib.hid g3
    go_wp2_with fail
    refine hlike.out.mono ?_
    rintro e w4 ⟨rfl, b4⟩
    have B4 := keep_step b4 B3
    go_wp2_with fail
    refine (hmem.out _).mono ?_
    rintro e w5 ⟨v5, rfl, o5, b5⟩
    have B5 := keep_step b5 B4
    obtain ⟨a5, c5, hs5, hm5⟩ := list_len o5
    subst hs5
    have hi5 := Lib.hid (ints_of_own o5)
    clear o5
    go_wp2_with fail
    refine (hcnt.out _).mono ?_
    rintro e w6 ⟨rfl, rfl⟩
    go_wp2_with fail
    refine (hback.out _ _ hi5.out).mono ?_
    rintro e w7 ⟨rfl, rfl⟩
    generalize hml : M.length = ml at *
    replace hml := Lib.hid hml
    go_wp2_with fail
    go_loop [15, 16] (fun s i => ∃ (k S : Nat), k ≤ ml ∧ i = .int .i64 k ∧ s = .int .i64 S ∧ S ≤ 256 ∧ Hid (S = 2 ^ k)) (fun _ i => ml - (intOf i).toNat)
    case atStart => exact ⟨0, 1, Nat.zero_le _, rfl, rfl, by omega, rfl⟩
    case round =>
      obtain ⟨k, S, hk, rfl, rfl, hS, hSk⟩ := hrel
      by_cases hlt : k < ml
      · have hp : S * 2 ≤ 256 := by
          have h1 : 2 ^ (k + 1) ≤ 2 ^ 8 := Nat.pow_le_pow_right (by omega) (by omega)
          rw [Nat.pow_succ, ← hSk.out] at h1
          omega
        have hpe := Lib.hid (show S * 2 = 2 ^ (k + 1) by rw [Nat.pow_succ, hSk.out])
        go_wp2_with fail
        go_round
        case rel => exact ⟨k + 1, S * 2, by omega, by go_num, by go_num, hp, hpe.out⟩
        case measure => simp [intOf]; omega
      · obtain rfl : k = ml := by omega
        have hfin : ((RL : Int) == (S : Int)) = true := by
          rw [beq_iff_eq, g3.out, hSk.out]
        go_wp2_with fail
        go_ret
        exact ⟨rfl, B5⟩
  · by_cases h3 : subCode n m = 3
    · obtain ⟨g1, g2⟩ := sub_limit h3
      obtain ⟨p1, p2⟩ := pop_mem g1
      obtain ⟨q1, q2⟩ := members_back g1
      have g4 := pop_small g1
      have hmem := Lib.hid (fun W => show Calls Try.prog 26 #[.int .i64 n, .int .i64 m] W fun e w' => ∃ v, e = .returned (.tuple #[v, .int .i64 0]) ∧ w'.ownsRow W.heap.size 2 1 v (mem m).length ((mem m).map (Value.int .i64)) ∧ Below W.heap.size W w' from by
        have h9 := implMembersOf_any n m W
        rw [g1, p2] at h9
        exact h9)
      have hcnt := Lib.hid (fun W => show Calls Try.prog 27 #[.int .i64 n, .int .i64 m] W fun e w' => e = .returned (.tuple #[.int .i64 ((mem m).length : Nat), .int .i64 0]) ∧ W = w' from by
        have h9 := implCountMembers_any n m W
        rw [g1, p1] at h9
        exact h9)
      have hback := Lib.hid (fun v W (h : Ints W v (mem m)) => show Calls Try.prog 28 #[.int .i64 n, v] W fun e w' => e = .returned (.tuple #[.int .i64 m, .int .i64 0]) ∧ W = w' from by
        have h9 := implMaskOf_any n v (mem m) W h
        rw [q1, q2] at h9
        exact h9)
      have g5 : 8 < (mem m).length := by omega
      rw [h3]
      clear h0 h3 g1 p1 p2 q1 q2 g4 g2
      generalize hM : mem m = M at *
      clear hM
      go_wp2_with fail
      refine hlike.out.mono ?_
      rintro e w4 ⟨rfl, b4⟩
      have B4 := keep_step b4 B3
      go_wp2_with fail
      refine (hmem.out _).mono ?_
      rintro e w5 ⟨v5, rfl, o5, b5⟩
      have B5 := keep_step b5 B4
      obtain ⟨a5, c5, hs5, hm5⟩ := list_len o5
      subst hs5
      have hi5 := Lib.hid (ints_of_own o5)
      clear o5
      go_wp2_with fail
      refine (hcnt.out _).mono ?_
      rintro e w6 ⟨rfl, rfl⟩
      go_wp2_with fail
      refine (hback.out _ _ hi5.out).mono ?_
      rintro e w7 ⟨rfl, rfl⟩
      generalize hml : M.length = ml at *
      replace hml := Lib.hid hml
      go_wp2_with fail
      go_ret
      exact ⟨ret_bool (by simp; omega), B5⟩
    · obtain ⟨g1, g2⟩ := sub_other h0 h3
      have hmem := Lib.hid (implMembersOf_any n m)
      have hcnt := Lib.hid (implCountMembers_any n m)
      rw [g2] at h0 h3 ⊢
      have e0 : (maskCode n m != 0) = true := by rw [bne_iff_ne]; exact h0
      have e3 : (maskCode n m != 3) = true := by rw [bne_iff_ne]; exact h3
      clear h0 h3 g1 g2
      generalize maskCode n m = C at *
      go_wp2_with fail
      refine hlike.out.mono ?_
      rintro e w4 ⟨rfl, b4⟩
      have B4 := keep_step b4 B3
      go_wp2_with fail
      refine (hmem.out _).mono ?_
      rintro e w5 ⟨v5, rfl, o5, b5⟩
      have B5 := keep_step b5 B4
      have o5 := Lib.hid o5
      go_wp2_with fail
      refine (hcnt.out _).mono ?_
      rintro e w6 ⟨rfl, rfl⟩
      go_wp2_with fail
      go_ret
      exact ⟨rfl, B5⟩
end Go.Proofs.Ytfedipeabbaccaa
