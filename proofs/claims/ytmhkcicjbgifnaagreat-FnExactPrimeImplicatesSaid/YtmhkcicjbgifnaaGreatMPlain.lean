/- Walks of IsPlain and DepthsOf, of the program and of the reference. -/
import Derived.Test.YtmhkcicjbgifnaaGreatMParts

namespace Go.Proofs.YtmhkcicjbgifnaaGreat
open Go.RowKit

def modalB (k : Int) : Bool := decide (k = 5 ∨ k = 6)
def plainB (ns : List Nd) : Bool := ns.all fun n => !modalB n.1
def formCode (ns : List Nd) : Int := if formB ns then 0 else 1

theorem modal_cases (k : Int) : k = 5 ∨ k = 6 ∨ (k < 5 ∨ 6 < k) := by omega
theorem modal_yes {k : Int} (h : k = 5 ∨ k = 6) : modalB k = true := by simp [modalB, h]
theorem modal_no {k : Int} (h : k < 5 ∨ 6 < k) : modalB k = false := by simp [modalB]; omega

theorem isModal_any (k : Int) (w : World) :
    Calls Tryz.prog 69 #[.int .i64 k] w fun e w' => e = .returned (.bool (modalB k)) ∧ w = w' := by
  rcases modal_cases k with rfl | rfl | h
  · go_enter Tryz.func69, Tryz.ntmps69
    go_wp2_with fail
    go_ret
    exact ⟨rfl, rfl⟩
  · go_enter Tryz.func69, Tryz.ntmps69
    go_wp2_with fail
    go_ret
    exact ⟨rfl, rfl⟩
  · have hf := Lib.hid (modal_no h)
    have h5 : (k == 5) = false := by rw [beq_eq_false_iff_ne]; omega
    have h6 : (k == 6) = false := by rw [beq_eq_false_iff_ne]; omega
    clear h
    go_enter Tryz.func69, Tryz.ntmps69
    go_wp2_with fail
    go_ret
    exact ⟨ret_bool hf.out.symm, rfl⟩

theorem isPlain1_pred (ns : List Nd) (w : World) : Pred Tryz.prog 68 #[] aggN ns (fun n => modalB n.1) w := by
  intro W n _ _ _
  obtain ⟨x, y⟩ := n
  unfold aggN
  show Calls Tryz.prog 68 #[.agg #[.int .i64 x, .int .i64 y]] W _
  go_enter Tryz.func68, Tryz.ntmps68
  go_wp2_with fail
  refine (isModal_any _ _).mono ?_
  rintro e w' ⟨rfl, rfl⟩
  go_wp2_with fail
  go_ret
  exact ⟨rfl, (Below.refl _ _).alloc (Nat.le_refl _) _⟩

theorem isPlain_any (v : Value) (ns : List Nd) (w : World) (h : Nodes w v ns) :
    Calls Tryz.prog 40 #[v] w fun e w' => e = .returned (.bool (plainB ns)) ∧ Below w.heap.size w w' := by
  have hf := Lib.hid (show (!(ns.any fun n => modalB n.1)) = plainB ns by unfold plainB; rw [List.not_any_eq_all_not])
  have heg := Lib.hid (enters_of Tryz.func68 (by kernel_rfl) rfl)
  go_enter Tryz.func40, Tryz.ntmps40
  go_wp2_with (go_at_call 67; refine (containsFuncN_any _ _ heg.out _ ns _ _ h (isPlain1_pred ns _)).mono ?_; rintro e w' ⟨rfl, hb⟩)
  go_ret
  exact ⟨ret_bool hf.out, hb⟩

set_option maxHeartbeats 400000 in
theorem l02Plain_any (v : Value) (ns : List Nd) (w : World) (h : Nodes w v ns) :
    Calls Tryz.prog 30 #[v] w fun e w' => e = .returned (.bool (plainB ns)) ∧ w = w' := by
  obtain ⟨hm, a, c, b, o, rfl, hc, h0, hcell⟩ := h.opened
  unfold maxLen at hm
  clear h
  rcases h0 with h0 | ⟨h0, rfl⟩
  all_goals
    go_enter Tryz.func30, Tryz.ntmps30
    go_wp2_with fail
    go_loop [3] (fun i => ∃ k : Nat, k ≤ ns.length ∧ i = .int .i64 k ∧ Hid (∀ i x, i < k → ns[i]? = some x → (!modalB x.1) = true)) (fun i => ns.length - (intOf i).toNat)
    case atStart => exact ⟨0, Nat.zero_le _, rfl, fun j x hj => by omega⟩
    case round =>
      obtain ⟨k, hk, rfl, hall⟩ := hrel
      by_cases hlt : k < ns.length
      · all_goals try (exfalso; omega)
        all_goals
          obtain ⟨x, y, hx, hcx, hcy⟩ := hcell.out k hlt
          have hx := Lib.hid hx
          have hbad := Lib.hid (fun h : modalB x = true => show plainB ns = false from all_bad (p := fun n : Nd => !modalB n.1) hx.out (by simp [h]))
          rcases modal_cases x with h5 | h6 | h7
          · subst h5
            have hf := Lib.hid (hbad.out (by rfl))
            go_wp2_with fail
            go_ret
            exact ⟨ret_bool hf.out.symm, rfl⟩
          · subst h6
            have hf := Lib.hid (hbad.out (by rfl))
            go_wp2_with fail
            go_ret
            exact ⟨ret_bool hf.out.symm, rfl⟩
          · have hg := Lib.hid (modal_no h7)
            have h5 : (x == 5) = false := by rw [beq_eq_false_iff_ne]; omega
            have h6 : (x == 6) = false := by rw [beq_eq_false_iff_ne]; omega
            clear h7
            go_wp2_with fail
            go_round
            case rel =>
              refine ⟨k + 1, by omega, by go_num, fun i z hi hz => ?_⟩
              rcases Nat.lt_or_ge i k with h2 | h2
              · exact hall.out i z h2 hz
              · obtain rfl : i = k := by omega
                rw [hx.out] at hz
                obtain rfl := Option.some.inj hz
                simp [hg.out]
            case measure => simp [intOf]; omega
      · obtain rfl : k = ns.length := by omega
        have hf := Lib.hid (show plainB ns = true from all_good hall.out)
        go_wp2_with fail
        go_ret
        exact ⟨ret_bool hf.out.symm, rfl⟩

def isPlainR (ns : List Nd) : Bool := if formB ns then plainB ns else false



/-! Height and modal depth. -/
def depthH : Tr → Int
  | .nil => 0
  | .node _ _ n l r => if ar n.1 = 0 then 0 else if ar n.1 = 1 then depthH l + 1 else max (depthH l) (depthH r) + 1
def depthM : Tr → Int
  | .nil => 0
  | .node _ _ n l r => if ar n.1 = 0 then 0 else if ar n.1 = 1 then depthM l + 1 else max (depthM l) (depthM r)

theorem depth_bounds (t : Tr) : 0 ≤ depthH t ∧ depthH t ≤ (flat t).length ∧ 0 ≤ depthM t ∧ depthM t ≤ (flat t).length := by
  induction t with
  | nil => simp [depthH, depthM, flat]
  | node _ _ n l r ihl ihr =>
    simp only [depthH, depthM, flat, List.length_cons, List.length_append]
    split
    · omega
    · split <;> omega
end Go.Proofs.YtmhkcicjbgifnaaGreat
