/- Lists of formulas as arguments of the laws: the measure. -/
import Derived.Test.YtadinbjhpbomkaaIsSub
namespace Go.Proofs.Ytadinbjhpbomkaa
open Go.RowKit

set_option maxHeartbeats 1000000 in
theorem szNodeSS_any (v : Value) (Is : List (List Nd)) (l : Int) (w : World) (h : Fs w v Is) (h0 : 0 ≤ l) (h1 : l ≤ 1048576) :
    Calls Try.prog 21 #[v, .int .i64 l] w fun e w' => (∃ z : Int, e = .returned (.int .i64 z) ∧ (z = -1 ∨ 0 ≤ z ∧ z ≤ l ∧ Is.length ≤ 1048576 ∧ ∀ I ∈ Is, I.length ≤ 1048576)) ∧ w = w' := by
  obtain ⟨a, c, b, o, rfl, hc, hm, ha, hcell⟩ := h.cells
  unfold maxLen at hm
  clear h
  have hah := Lib.hid ha
  clear ha
  have hw1 : IntKind.i64.wrap (l - (Is.length : Int)) = l - (Is.length : Int) := IntWalk.i64_in _ (by omega)
  by_cases hneg : l - (Is.length : Int) < 0
  · go_enter Try.func21, Try.ntmps21
    go_wp2_with fail
    go_ret
    exact ⟨⟨_, rfl, .inl rfl⟩, rfl⟩
  · go_enter Try.func21, Try.ntmps21
    go_wp2_with fail
    go_loop [1, 5] (fun z i => ∃ (k : Nat) (q : Int), k ≤ Is.length ∧ i = .int .i64 k ∧ z = .int .i64 q ∧ 0 ≤ q ∧ q ≤ l ∧ Hid (∀ (j : Nat) (I : List Nd), j < k → Is[j]? = some I → I.length ≤ 1048576)) (fun _ i => Is.length - (intOf i).toNat)
    case atStart => exact ⟨0, _, Nat.zero_le _, rfl, rfl, by omega, by omega, fun j I hj => by omega⟩
    case round =>
      clear hw1
      obtain ⟨k, q, hk, rfl, rfl, hq0, hq1, hall⟩ := hrel
      by_cases hlt : k < Is.length
      · obtain rfl := hah.out (by omega)
        obtain ⟨vI, I, hI, hcI, hnI⟩ := hcell.out k hlt
        obtain ⟨a1, c1, rfl⟩ := hnI.shape
        have hnI := Lib.hid hnI
        have hIh := Lib.hid hI
        clear hI
        by_cases hs : q < (I.length : Int)
        · have hsz := Lib.hid (show szR q I.length = -1 by unfold szR; rw [if_pos hs])
          clear hs
          go_wp2_with fail
          refine (szNodeS_any _ I q _ hnI.out hq0 (by omega)).mono ?_
          rintro e w' ⟨rfl, rfl⟩
          rw [hsz.out]
          go_wp2_with fail
          go_ret
          exact ⟨⟨_, rfl, .inl rfl⟩, rfl⟩
        · have hsz := Lib.hid (show szR q I.length = q - I.length by unfold szR; rw [if_neg hs])
          have hp : 0 ≤ q - (I.length : Int) := by omega
          go_wp2_with fail
          refine (szNodeS_any _ I q _ hnI.out hq0 (by omega)).mono ?_
          rintro e w' ⟨rfl, rfl⟩
          rw [hsz.out]
          have hIl : I.length ≤ 1048576 := by omega
          have hq2 : q - (I.length : Int) ≤ l := by omega
          generalize q - (I.length : Int) = q' at *
          have hnn : ¬ q' < 0 := by omega
          go_wp2_with fail
          go_round
          case rel =>
            refine ⟨k + 1, q', by omega, by go_num, rfl, hp, hq2, fun j J hj hJ => ?_⟩
            rcases Nat.lt_or_ge j k with h2 | h2
            · exact hall.out j J h2 hJ
            · obtain rfl : j = k := by omega
              rw [hIh.out] at hJ
              obtain rfl : I = J := by simpa using hJ
              exact hIl
          case measure => simp [intOf]; omega
      · obtain rfl : k = Is.length := by omega
        go_wp2_with fail
        go_ret
        refine ⟨⟨q, rfl, .inr ⟨hq0, hq1, by omega, fun I hI => ?_⟩⟩, rfl⟩
        obtain ⟨j, hj⟩ := List.getElem?_of_mem hI
        exact hall.out j I (List.getElem?_eq_some_iff.1 hj).1 hj
end Go.Proofs.Ytadinbjhpbomkaa
