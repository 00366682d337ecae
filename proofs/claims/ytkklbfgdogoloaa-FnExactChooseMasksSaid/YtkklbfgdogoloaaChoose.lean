/- Walks of ChooseMasks, of the program and of the reference. -/
import Derived.Test.YtkklbfgdogoloaaMembers
namespace Go.Proofs.Ytkklbfgdogoloaa
open Go.RowKit

/-- The masks below j with k members. -/
def chooseL (k : Int) (j : Nat) : List Int := ((List.range j).filter (fun m : Nat => popInt (m : Int) == k)).map Int.ofNat

theorem chooseL_succ (k : Int) (j : Nat) : chooseL k (j + 1) = chooseL k j ++ if popInt j == k then [(j : Int)] else [] := by
  unfold chooseL
  rw [List.range_succ, List.filter_append, List.map_append]
  congr 1
  by_cases h : popInt j == k <;> simp [h]

theorem chooseL_length (k : Int) (j : Nat) : (chooseL k j).length ≤ j := by
  unfold chooseL
  rw [List.length_map]
  exact Nat.le_trans (List.length_filter_le _ _) (by simp)

def chooseCode (n k : Int) : Int := if inR n 0 12 && inR k 0 n then 0 else 2
def chooseR (n k : Int) : List Int := if inR n 0 12 && inR k 0 n then chooseL k (2 ^ n.toNat) else []

theorem chooseR_length (n k : Int) : (chooseR n k).length ≤ 1000000 := by
  unfold chooseR
  split
  · rename_i h
    simp only [Bool.and_eq_true] at h
    have h1 := inR_iff.1 h.1
    have h2 := chooseL_length k (2 ^ n.toNat)
    have h3 : (2 : Nat) ^ n.toNat ≤ 2 ^ 12 := Nat.pow_le_pow_right (by omega) (by omega)
    rw [show (2 : Nat) ^ 12 = 4096 from rfl] at h3
    omega
  · simp

theorem pow_nat (n : Int) : ((2 : Int) ^ n.toNat) = ((2 ^ n.toNat : Nat) : Int) := by simp

set_option maxHeartbeats 800000 in
theorem specChooseMasks_any (n k : Int) (w : World) :
    Calls Try.prog 35 #[.int .i64 n, .int .i64 k] w fun e w' => ∃ v, e = .returned (.tuple #[v, .int .i64 (chooseCode n k)]) ∧ w'.ownsRow w.heap.size 2 1 v (chooseR n k).length ((chooseR n k).map (Value.int .i64)) ∧ Below w.heap.size w w' := by
  obtain ⟨i0, hi, hz0, hz1, hz2⟩ := info_parts info_i64
  cases hn : inR n 0 12
  · have hf := Lib.hid (show chooseR n k = [] ∧ chooseCode n k = 2 by simp [chooseR, chooseCode, hn])
    go_enter Try.func35, Try.ntmps35
    go_wp2_with (go_at_call 44; refine (l01In_any _ _ _ _).mono ?_; rintro e w' ⟨rfl, rfl⟩)
    go_ret2
    exact ⟨_, by rw [hf.out.2]; rfl, by rw [hf.out.1]; exact World.ownsRow_nil _ _ _ _, Below.refl _ _⟩
  · cases hk : inR k 0 n
    · have hf := Lib.hid (show chooseR n k = [] ∧ chooseCode n k = 2 by simp [chooseR, chooseCode, hk])
      go_enter Try.func35, Try.ntmps35
      go_wp2_with (go_at_call 44; refine (l01In_any _ _ _ _).mono ?_; rintro e w' ⟨rfl, rfl⟩)
      go_ret2
      exact ⟨_, by rw [hf.out.2]; rfl, by rw [hf.out.1]; exact World.ownsRow_nil _ _ _ _, Below.refl _ _⟩
    · have hf := Lib.hid (show chooseR n k = chooseL k (2 ^ n.toNat) ∧ chooseCode n k = 0 by simp [chooseR, chooseCode, hn, hk])
      obtain ⟨n0, n1⟩ := inR_iff.1 hn
      have hp : (2 : Nat) ^ n.toNat ≤ 4096 := Nat.pow_le_pow_right (n := 2) (by omega) (show n.toNat ≤ 12 by omega)
      obtain ⟨N, hN⟩ : ∃ N, N = 2 ^ n.toNat := ⟨_, rfl⟩
      rw [← hN] at hf hp
      have hfull := Lib.hid (show full n = (N : Int) - 1 by unfold full; rw [pow_nat, ← hN])
      have hN1 : 1 ≤ N := by rw [hN]; exact Nat.pow_pos (by omega)
      clear hN
      go_enter Try.func35, Try.ntmps35
      go_wp2_with (go_at_call 44; refine (l01In_any _ _ _ _).mono ?_; rintro e w' ⟨rfl, rfl⟩)
      go_loopw [6, 7] (fun v i wr => ∃ j : Nat, j ≤ N ∧ i = .int .i64 j ∧ wr.ownsRow w.heap.size 2 1 v (chooseL k j).length ((chooseL k j).map (Value.int .i64)) ∧ Below w.heap.size w wr) (fun _ i _ => N - (intOf i).toNat)
      case atStart => exact ⟨0, by omega, rfl, World.ownsRow_lit w #[] 0 (Nat.le_refl _) (by simp [maxLen]) rfl, (Below.refl _ _).alloc (Nat.le_refl _) _⟩
      case round =>
        obtain ⟨j, hj, rfl, ho, hb⟩ := hrel
        go_wp2_with fail
        refine (l01Full_any _ n0 (by omega) _).mono ?_
        rintro e w' ⟨rfl, rfl⟩
        rw [hfull.out]
        by_cases hlt : j < N
        · have hlt' : (j : Int) ≤ (N : Int) - 1 := by omega
          have hs := Lib.hid (chooseL_succ k j)
          have hl := chooseL_length k j
          have hsz := hb.size
          cases hh : (popInt j == k)
          · go_wp2_with (go_at_call 53; refine (l01Bits_any _ (by omega) (by omega) _).mono ?_; rintro e w' ⟨rfl, rfl⟩)
            go_roundw
            case rel => exact ⟨j + 1, by omega, by go_num, by rw [hs.out, hh]; simpa using ho, hb⟩
            case measure => simp [intOf]; omega
          · go_wp2_with (first | (go_at_call 53; refine (l01Bits_any _ (by omega) (by omega) _).mono ?_; rintro e w' ⟨rfl, rfl⟩) | (at_builtin; refine wpList_append_own _ rfl _ _ 25 rfl w.heap.size 2 i0 (.int .i64 0) 1 8 Try.underlying25 hi hz0 hz1 hz2 rfl (by decide) _ _ _ rfl (ho.alloc _) ⟨wr.heap.size, 0, none⟩ 1 1 [.int .i64 (j : Int)] rfl rfl (cell_one_new _ _ _) (ints_oneCell .i64 [(j : Int)]) (by unfold maxLen; omega) (by omega) (by simp; omega) ?_; intro v' w1 hown' hgrow _))
            go_roundw
            case rel =>
              refine ⟨j + 1, by omega, by go_num, ?_, ?_⟩
              · rw [hs.out, hh]; simpa using hown'
              · exact (hb.alloc (by omega) _).grown hgrow (by simp; omega) (fun j hj => (ho.lt j hj).1)
            case measure => simp [intOf]; omega
        · obtain rfl : j = N := by omega
          have hlt' : ¬ (j : Int) ≤ (j : Int) - 1 := by omega
          have ho := Lib.hid ho
          go_wp2_with fail
          go_ret2
          exact ⟨_, by rw [hf.out.2]; rfl, by rw [hf.out.1]; exact ho.out, hb⟩

set_option maxHeartbeats 800000 in
theorem implChooseMasks_any (n k : Int) (w : World) :
    Calls Try.prog 36 #[.int .i64 n, .int .i64 k] w fun e w' => ∃ v, e = .returned (.tuple #[v, .int .i64 (chooseCode n k)]) ∧ w'.ownsRow w.heap.size 2 1 v (chooseR n k).length ((chooseR n k).map (Value.int .i64)) ∧ Below w.heap.size w w' := by
  obtain ⟨i0, hi, hz0, hz1, hz2⟩ := info_parts info_i64
  cases hn : inR n 0 12
  · have hf := Lib.hid (show chooseR n k = [] ∧ chooseCode n k = 2 by simp [chooseR, chooseCode, hn])
    go_enter Try.func36, Try.ntmps36
    go_wp2_with (go_at_call 51; refine (inRange_any _ _ _ _).mono ?_; rintro e w' ⟨rfl, rfl⟩)
    go_ret2
    exact ⟨_, by rw [hf.out.2]; rfl, by rw [hf.out.1]; exact World.ownsRow_nil _ _ _ _, Below.refl _ _⟩
  · cases hk : inR k 0 n
    · have hf := Lib.hid (show chooseR n k = [] ∧ chooseCode n k = 2 by simp [chooseR, chooseCode, hk])
      go_enter Try.func36, Try.ntmps36
      go_wp2_with (go_at_call 51; refine (inRange_any _ _ _ _).mono ?_; rintro e w' ⟨rfl, rfl⟩)
      go_ret2
      exact ⟨_, by rw [hf.out.2]; rfl, by rw [hf.out.1]; exact World.ownsRow_nil _ _ _ _, Below.refl _ _⟩
    · have hf := Lib.hid (show chooseR n k = chooseL k (2 ^ n.toNat) ∧ chooseCode n k = 0 by simp [chooseR, chooseCode, hn, hk])
      obtain ⟨n0, n1⟩ := inR_iff.1 hn
      have hp : (2 : Nat) ^ n.toNat ≤ 4096 := Nat.pow_le_pow_right (n := 2) (by omega) (show n.toNat ≤ 12 by omega)
      obtain ⟨N, hN⟩ : ∃ N, N = 2 ^ n.toNat := ⟨_, rfl⟩
      rw [← hN] at hf hp
      have hpw : (2 : Int) ^ n.toNat = (N : Int) := by rw [pow_nat, ← hN]
      clear hN
      go_enter Try.func36, Try.ntmps36
      go_wp2_with (go_at_call 51; refine (inRange_any _ _ _ _).mono ?_; rintro e w' ⟨rfl, rfl⟩)
      go_loopw [6, 19] (fun v i wr => ∃ j : Nat, j ≤ N ∧ i = .int .i64 j ∧ wr.ownsRow w.heap.size 2 1 v (chooseL k j).length ((chooseL k j).map (Value.int .i64)) ∧ Below w.heap.size w wr) (fun _ i _ => N - (intOf i).toNat)
      case atStart => exact ⟨0, by omega, rfl, World.ownsRow_nil _ _ _ _, Below.refl _ _⟩
      case round =>
        obtain ⟨j, hj, rfl, ho, hb⟩ := hrel
        by_cases hlt : j < N
        · have hs := Lib.hid (chooseL_succ k j)
          have hl := chooseL_length k j
          have hsz := hb.size
          cases hh : (popInt j == k)
          · go_wp2_with (go_at_call 55; refine (countMembers_any _ (by omega) (by omega) _).mono ?_; rintro e w' ⟨rfl, rfl⟩)
            go_roundw
            case rel => exact ⟨j + 1, by omega, by go_num, by rw [hs.out, hh]; simpa using ho, hb⟩
            case measure => simp [intOf]; omega
          · go_wp2_with (first | (go_at_call 55; refine (countMembers_any _ (by omega) (by omega) _).mono ?_; rintro e w' ⟨rfl, rfl⟩) | (at_builtin; refine wpList_append_own _ rfl _ _ 25 rfl w.heap.size 2 i0 (.int .i64 0) 1 8 Try.underlying25 hi hz0 hz1 hz2 rfl (by decide) _ _ _ rfl (ho.alloc _) ⟨wr.heap.size, 0, none⟩ 1 1 [.int .i64 (j : Int)] rfl rfl (cell_one_new _ _ _) (ints_oneCell .i64 [(j : Int)]) (by unfold maxLen; omega) (by omega) (by simp; omega) ?_; intro v' w1 hown' hgrow _))
            go_roundw
            case rel =>
              refine ⟨j + 1, by omega, by go_num, ?_, ?_⟩
              · rw [hs.out, hh]; simpa using hown'
              · exact (hb.alloc (by omega) _).grown hgrow (by simp; omega) (fun j hj => (ho.lt j hj).1)
            case measure => simp [intOf]; omega
        · obtain rfl : j = N := by omega
          have ho := Lib.hid ho
          go_wp2_with fail
          go_ret2
          exact ⟨_, by rw [hf.out.2]; rfl, by rw [hf.out.1]; exact ho.out, hb⟩
end Go.Proofs.Ytkklbfgdogoloaa
