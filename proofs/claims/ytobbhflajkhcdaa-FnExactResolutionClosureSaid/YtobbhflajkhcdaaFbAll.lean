/- spec.l04All. -/
import Derived.Test.YtobbhflajkhcdaaFb
namespace Go.Proofs.Ytobbhflajkhcdaa
open Go.RowKit
set_option linter.unusedVariables false

theorem all_upto {Is : List (List Int)} (h : ∀ j I, j < Is.length → Is[j]? = some I → clauseB I = true) : Is.all clauseB = true := by
  rw [List.all_eq_true]
  intro I hI
  obtain ⟨j, hj⟩ := List.getElem?_of_mem hI
  exact h j I (List.getElem?_eq_some_iff.1 hj).1 hj
theorem all_not {Is : List (List Int)} {j : Nat} {I : List Int} (hj : Is[j]? = some I) (h : clauseB I = false) : Is.all clauseB = false := by
  rw [List.all_eq_false]
  exact ⟨I, List.mem_of_getElem? hj, by simp [h]⟩
set_option maxHeartbeats 1000000 in
theorem l04All_any (v : Value) (Is : List (List Int)) (w : World) (h : Fi w v Is) :
    Calls Try.prog 12 #[v] w fun e w' => e = .returned (.bool (Is.all clauseB)) ∧ Below w.heap.size w w' := by
  obtain ⟨a, c, b, o, rfl, hc, hm, ha, hcell⟩ := h.cells
  unfold maxLen at hm
  clear h
  go_enter Try.func12, Try.ntmps12
  go_wp2_with fail
  go_loopw [3] (fun i wr => ∃ k : Nat, k ≤ Is.length ∧ i = .int .i64 k ∧ Hid (∀ j I, j < k → Is[j]? = some I → clauseB I = true) ∧ Below w.heap.size w wr) (fun i _ => Is.length - (intOf i).toNat)
  case atStart => exact ⟨0, Nat.zero_le _, rfl, Lib.hid (fun j I hj => by omega), Below.refl _ _⟩
  case round =>
    obtain ⟨k, hk, rfl, hall, hb⟩ := hrel
    by_cases hlt : k < Is.length
    · obtain rfl := ha (by omega)
      obtain ⟨vI, I, hI, hcI, hintI⟩ := hcell.out k hlt
      have hcI := keep_cell hb hcI
      have hcl := Lib.hid (specIsClause_any vI I wr (hintI.below hb (Nat.le_refl _)))
      have hI := Lib.hid hI
      go_wp2_with fail
      refine hcl.out.mono ?_
      rintro e w2 ⟨rfl, b2⟩
      cases hcI2 : clauseB I
      · have hf := Lib.hid (all_not hI.out hcI2)
        go_wp2_with fail
        go_ret
        exact ⟨ret_bool hf.out.symm, keep_step b2 hb⟩
      · have hall2 := Lib.hid (show ∀ j J, j < k + 1 → Is[j]? = some J → clauseB J = true from fun j J hj hJ => by
          rcases Nat.lt_or_ge j k with h1 | h1
          · exact hall.out j J h1 hJ
          · obtain rfl : j = k := by omega
            rw [hI.out] at hJ
            cases hJ
            exact hcI2)
        go_wp2_with fail
        go_roundw
        case rel => exact ⟨k + 1, by omega, by go_num, hall2, keep_step b2 hb⟩
        case measure => simp [intOf]; omega
    · obtain rfl : k = Is.length := by omega
      have hf := Lib.hid (all_upto hall.out)
      go_wp2_with fail
      go_ret
      exact ⟨ret_bool hf.out.symm, hb⟩
end Go.Proofs.Ytobbhflajkhcdaa
