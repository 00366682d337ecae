/- The constants of formulas, of the program and of the reference. -/
import Derived.Test.YtadinbjhpbomkaaJoinTwo
import Derived.Test.YtadinbjhpbomkaaEq
namespace Go.Proofs.Ytadinbjhpbomkaa
open Go.RowKit Go.Deep

def truthL : List Nd := [(4, 0), (1, 0), (1, 0)]

theorem l02False_own (w : World) :
    Calls Try.prog 107 #[] w fun e w' => ∃ v, e = .returned v ∧ w'.ownsRow w.heap.size 59 2 v 1 (cellsN [(1, 0)]) ∧ Below w.heap.size w w' := by
  have hl0 := Lib.hid (World.ownsRow_lit (e := 59) (base := w.heap.size) (size := 2) w #[.int .i64 1, .int .i64 0] 1 (Nat.le_refl _) (by simp [maxLen]) rfl)
  go_enter Try.func107, Try.ntmps107
  go_wp2_with fail
  go_ret
  exact ⟨_, rfl, hl0.out, (Below.refl _ _).alloc (Nat.le_refl _) _⟩

theorem l02Not_own (v : Value) (ns : List Nd) (w : World) (h : Nodes w v ns) (hp : 0 < ns.length) (hn : ns.length ≤ 1000) :
    Calls Try.prog 139 #[v] w fun e w' => ∃ v', e = .returned v' ∧ w'.ownsRow w.heap.size 59 2 v' (1 + ns.length + 1) (cellsN ((4, 0) :: ns ++ [(1, 0)])) ∧ Below w.heap.size w w' := by
  have hv := Lib.hid h
  clear h
  go_enter Try.func139, Try.ntmps139
  go_wp2_with fail
  refine (l02False_own _).mono ?_
  rintro e w1 ⟨vf, rfl, hof, b1⟩
  have hof := Lib.hid hof
  go_wp2_with fail
  refine (l02Pair_any 4 v _ ns [(1, 0)] _ (hv.out.below b1 (Nat.le_refl _)) (nodes_of_own hof.out) hp (by simp) hn (by simp)).mono ?_
  rintro e w2 ⟨v2, rfl, ho, b2⟩
  have ho := Lib.hid (own_mono ho b1.size)
  go_wp2_with fail
  go_ret
  exact ⟨_, rfl, ho.out, b1.trans (b2.mono b1.size)⟩

theorem l02True_own (w : World) :
    Calls Try.prog 106 #[] w fun e w' => ∃ v, e = .returned v ∧ Nodes w' v truthL ∧ Below w.heap.size w w' := by
  go_enter Try.func106, Try.ntmps106
  go_wp2_with fail
  refine (l02False_own _).mono ?_
  rintro e w1 ⟨vf, rfl, hof, b1⟩
  have hof := Lib.hid hof
  go_wp2_with fail
  refine (l02Not_own _ [(1, 0)] _ (nodes_of_own hof.out) (by simp) (by simp)).mono ?_
  rintro e w2 ⟨v2, rfl, ho, b2⟩
  have ho := Lib.hid ho
  go_wp2_with fail
  go_ret
  exact ⟨_, rfl, nodes_of_own ho.out, b1.trans (b2.mono b1.size)⟩

theorem truth_own (w : World) :
    Calls Try.prog 109 #[] w fun e w' => ∃ v, e = .returned v ∧ Nodes w' v truthL ∧ Below w.heap.size w w' := by
  have hl0 := Lib.hid (World.ownsRow_lit (e := 59) (base := w.heap.size) (size := 2) w #[.int .i64 4, .int .i64 0, .int .i64 1, .int .i64 0, .int .i64 1, .int .i64 0] 3 (Nat.le_refl _) (by simp [maxLen]) rfl)
  go_enter Try.func109, Try.ntmps109
  go_wp2_with fail
  go_ret
  exact ⟨_, rfl, nodes_of_own (ns := truthL) hl0.out, (Below.refl _ _).alloc (Nat.le_refl _) _⟩

/-- Whether a formula is a constant. -/
def conB (x : Int) (ns : List Nd) : Bool := x == 1 || decide (ns = truthL)

theorem l10Truth_any (v : Value) (ns : List Nd) (w : World) (h : Nodes w v ns) (hn : ns.length ≤ 1000000) :
    Calls Try.prog 143 #[v] w fun e w' => e = .returned (.bool (decide (ns = truthL))) ∧ Below w.heap.size w w' := by
  have hv := Lib.hid h
  clear h
  go_enter Try.func143, Try.ntmps143
  go_wp2_with fail
  refine (l02True_own _).mono ?_
  rintro e w1 ⟨vt, rfl, ht, b1⟩
  have ht := Lib.hid ht
  go_wp2_with fail
  refine (l02Equal_any _ _ ns truthL _ (hv.out.below b1 (Nat.le_refl _)) ht.out hn).mono ?_
  rintro e w2 ⟨rfl, b2⟩
  go_wp2_with fail
  go_ret
  exact ⟨rfl, b1.trans (b2.mono b1.size)⟩

theorem isFalsum_any (v : Value) (x y : Int) (ns : List Nd) (w : World) (h : Nodes w v ((x, y) :: ns)) :
    Calls Try.prog 148 #[v] w fun e w' => e = .returned (.bool (x == 1)) ∧ w = w' := by
  obtain ⟨c, b, o, rfl, hc, hcm, hcell⟩ := h.raw (by simp)
  obtain ⟨hc0, hc1⟩ := node_head hcell.out
  simp only at hc0 hc1
  have hp0 : 0 < ((x, y) :: ns).length := by simp
  clear h hcm hcell
  generalize ((x, y) :: ns).length = m at *
  go_enter Try.func148, Try.ntmps148
  go_wp2_with fail
  go_ret
  exact ⟨rfl, rfl⟩

theorem isConstant_any (v : Value) (x y : Int) (ns : List Nd) (w : World) (h : Nodes w v ((x, y) :: ns)) (hn : ((x, y) :: ns).length ≤ 1000000) :
    Calls Try.prog 145 #[v] w fun e w' => e = .returned (.bool (conB x ((x, y) :: ns))) ∧ Below w.heap.size w w' := by
  have hv := Lib.hid h
  have hnh := Lib.hid hn
  have hfa := Lib.hid (isFalsum_any v x y ns w h)
  clear h hn
  cases hx : (x == 1)
  · have hc := Lib.hid (show conB x ((x, y) :: ns) = decide ((x, y) :: ns = truthL) by unfold conB; rw [hx, Bool.false_or])
    have hxh := Lib.hid hx
    clear hx
    go_enter Try.func145, Try.ntmps145
    go_wp2_with fail
    refine hfa.out.mono ?_
    rintro e w' ⟨rfl, rfl⟩
    rw [hxh.out]
    go_wp2_with fail
    refine (truth_own _).mono ?_
    rintro e w1 ⟨vt, rfl, ht, b1⟩
    have ht := Lib.hid ht
    go_wp2_with fail
    refine (same_any _ _ _ truthL _ (hv.out.below b1 (Nat.le_refl _)) ht.out hnh.out).mono ?_
    rintro e w2 ⟨rfl, b2⟩
    go_wp2_with fail
    go_ret
    exact ⟨ret_bool hc.out.symm, b1.trans (b2.mono b1.size)⟩
  · have hc := Lib.hid (show conB x ((x, y) :: ns) = true by unfold conB; rw [hx, Bool.true_or])
    have hxh := Lib.hid hx
    clear hx
    go_enter Try.func145, Try.ntmps145
    go_wp2_with fail
    refine hfa.out.mono ?_
    rintro e w' ⟨rfl, rfl⟩
    rw [hxh.out]
    go_wp2_with fail
    go_ret
    exact ⟨ret_bool hc.out.symm, Below.refl _ _⟩
end Go.Proofs.Ytadinbjhpbomkaa
