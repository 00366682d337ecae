/- Whether a list is a substitution; SubstituteFormula of both. -/
import Derived.Test.YtdpnkojchimmfaaQBReplTwo

namespace Go.Proofs.Ytdpnkojchimmfaa
open Go.RowKit

def subsB (Is : List (List Nd)) : Bool := decide (Is.length = 6) && Is.all formB

theorem Fs.cells {w : World} {v : Value} {Is : List (List Nd)} (h : Fs w v Is) : ∃ a c b o, v = .slice a Is.length c ∧ Is.length ≤ c ∧ Is.length ≤ maxLen ∧ (0 < Is.length → a = some ⟨b, o, none⟩) ∧ Hid (∀ j : Nat, j < Is.length → ∃ vI I, Is[j]? = some I ∧ w.cell? ⟨b, o + j, none⟩ = some vI ∧ Nodes w vI I) := by
  obtain ⟨ss, h1, h2, h3⟩ := h
  have hl : ss.length = Is.length := by have := congrArg List.length h3; simpa using this
  obtain ⟨_, hm, a, c, b, o, rfl, hc, ha, hcell⟩ := h1
  rw [hl] at hc hm ha ⊢
  refine ⟨a, c, b, o, rfl, hc, hm, ha, fun j hj => ?_⟩
  have hjs : j < ss.length := by omega
  obtain ⟨s, hs⟩ : ∃ s, ss[j]? = some s := ⟨_, List.getElem?_eq_getElem hjs⟩
  refine ⟨slV s, s.2, by rw [← h3, List.getElem?_map, hs]; rfl, ?_, h2 s (List.mem_of_getElem? hs)⟩
  exact hcell j _ (by rw [List.getElem?_map, hs]; rfl)

theorem subs_bad {Is : List (List Nd)} {k : Nat} {I : List Nd} (h : Is[k]? = some I) (hf : formB I = false) : subsB Is = false := by
  have : Is.all formB = false := by
    rw [Bool.eq_false_iff]; intro ha
    have := List.all_eq_true.1 ha I (List.mem_of_getElem? h)
    rw [hf] at this; cases this
  unfold subsB; rw [this, Bool.and_false]
theorem subs_good {Is : List (List Nd)} (h : ∀ (j : Nat) (I : List Nd), Is[j]? = some I → formB I = true) : subsB Is = decide (Is.length = 6) := by
  have : Is.all formB = true := by
    rw [List.all_eq_true]; intro I hI
    obtain ⟨j, hj⟩ := List.getElem?_of_mem hI
    exact h j I hj
  unfold subsB; rw [this, Bool.and_true]

set_option maxHeartbeats 1000000 in
theorem l03Is_any (v : Value) (Is : List (List Nd)) (w : World) (h : Fs w v Is) :
    Calls Try.prog 45 #[v] w fun e w' => e = .returned (.bool (subsB Is)) ∧ w = w' := by
  obtain ⟨a, c, b, o, rfl, hc, hm, ha, hcell⟩ := h.cells
  unfold maxLen at hm
  clear h
  have hgood := Lib.hid (fun hh => subs_good (Is := Is) hh)
  have hah := Lib.hid ha
  clear ha
  go_enter Try.func45, Try.ntmps45
  go_wp2_with fail
  go_loop [3] (fun i => ∃ k : Nat, k ≤ Is.length ∧ i = .int .i64 k ∧ Hid (∀ (j : Nat) (I : List Nd), j < k → Is[j]? = some I → formB I = true)) (fun i => Is.length - (intOf i).toNat)
  case atStart => exact ⟨0, Nat.zero_le _, rfl, fun j I hj => by omega⟩
  case round =>
    obtain ⟨k, hk, rfl, hall⟩ := hrel
    by_cases hlt : k < Is.length
    · obtain rfl := hah.out (by omega)
      obtain ⟨vI, I, hI, hcI, hnI⟩ := hcell.out k hlt
      obtain ⟨a1, c1, rfl⟩ := hnI.shape
      have hnI := Lib.hid hnI
      have hIh := Lib.hid hI
      clear hI
      cases hf : formB I
      · have hfin := Lib.hid (subs_bad hIh.out hf)
        have hfh := Lib.hid hf
        clear hf
        go_wp2_with fail
        refine (l02Is_any _ I _ hnI.out).mono ?_
        rintro e w' ⟨rfl, rfl⟩
        rw [hfh.out]
        go_wp2_with fail
        go_ret
        exact ⟨ret_bool hfin.out.symm, rfl⟩
      · have hfh := Lib.hid hf
        clear hf
        go_wp2_with fail
        refine (l02Is_any _ I _ hnI.out).mono ?_
        rintro e w' ⟨rfl, rfl⟩
        rw [hfh.out]
        go_wp2_with fail
        go_round
        case rel =>
          refine ⟨k + 1, by omega, by go_num, fun j J hj hJ => ?_⟩
          rcases Nat.lt_or_ge j k with h2 | h2
          · exact hall.out j J h2 hJ
          · obtain rfl : j = k := by omega
            rw [hIh.out] at hJ
            obtain rfl : I = J := by simpa using hJ
            exact hfh.out
        case measure => simp [intOf]; omega
    · obtain rfl : k = Is.length := by omega
      have hfin := Lib.hid (hgood.out fun j I hj => hall.out j I (List.getElem?_eq_some_iff.1 hj).1 hj)
      clear hgood
      go_wp2_with fail
      go_ret
      exact ⟨ret_bool (Eq.trans (by rw [Bool.eq_iff_iff]; simp only [beq_iff_eq, decide_eq_true_eq]; omega) hfin.out.symm), rfl⟩

set_option maxHeartbeats 1000000 in
theorem isSubstitution_any (v : Value) (Is : List (List Nd)) (w : World) (h : Fs w v Is) :
    Calls Try.prog 42 #[v] w fun e w' => e = .returned (.bool (subsB Is)) ∧ Below w.heap.size w w' := by
  obtain ⟨ss, h1, h2, h3⟩ := h
  have hl : ss.length = Is.length := by have := congrArg List.length h3; simpa using this
  have hall : (ss.all fun s => formB s.2) = Is.all formB := by rw [← h3, List.all_map]; rfl
  have hare := Lib.hid (areFormulas_any v ss w h1 h2)
  obtain ⟨_, hm, a, c, b, o, rfl, hc, ha, hcell⟩ := h1
  unfold maxLen at hm
  have hallh := Lib.hid hall
  have hlh := Lib.hid hl
  clear hcell h2 h3 ha hc hall hl
  by_cases h6 : ss.length = 6
  · have hs := Lib.hid (show subsB Is = Is.all formB by unfold subsB; rw [← hlh.out, h6]; simp)
    rw [h6] at hare ⊢
    clear hm h6
    go_enter Try.func42, Try.ntmps42
    go_wp2_with fail
    refine hare.out.mono ?_
    rintro e w1 ⟨rfl, b1⟩
    go_wp2_with fail
    go_ret
    exact ⟨ret_bool (by rw [hs.out, ← hallh.out]), b1⟩
  · have hs := Lib.hid (show subsB Is = false by unfold subsB; rw [← hlh.out]; simp [h6])
    have hne : ((ss.length : Int) == 6) = false := by rw [beq_eq_false_iff_ne]; omega
    clear h6
    generalize ss.length = m at *
    go_enter Try.func42, Try.ntmps42
    go_wp2_with fail
    go_ret
    exact ⟨ret_bool hs.out.symm, Below.refl _ _⟩
end Go.Proofs.Ytdpnkojchimmfaa
