/- Walks of the text of a formula: the reference; FormulaText of both. -/
import Derived.Test.YtdpnkojchimmfaaQAText

namespace Go.Proofs.Ytdpnkojchimmfaa
open Go.RowKit Go.Deep

theorem l02False_any (w : World) :
    Calls Try.prog 78 #[] w fun e w' => ∃ v, e = .returned v ∧ w'.ownsRow w.heap.size 41 2 v 1 (cellsN [(1, 0)]) ∧ Below w.heap.size w w' := by
  have hl0 := Lib.hid (World.ownsRow_lit (e := 41) (base := w.heap.size) (size := 2) w #[.int .i64 1, .int .i64 0] 1 (Nat.le_refl _) (by simp [maxLen]) rfl)
  go_enter Try.func78, Try.ntmps78
  go_wp2_with fail
  go_ret
  exact ⟨_, rfl, hl0.out, (Below.refl _ _).alloc (Nat.le_refl _) _⟩

theorem l02Not_any (v : Value) (ns : List Nd) (w : World) (h : Nodes w v ns) (hp : 0 < ns.length) (hn : ns.length ≤ 1000) :
    Calls Try.prog 80 #[v] w fun e w' => ∃ v', e = .returned v' ∧ w'.ownsRow w.heap.size 41 2 v' (1 + ns.length + 1) (cellsN ((4, 0) :: ns ++ [(1, 0)])) ∧ Below w.heap.size w w' := by
  have hv := Lib.hid h
  clear h
  go_enter Try.func80, Try.ntmps80
  go_wp2_with fail
  refine (l02False_any _).mono ?_
  rintro e w1 ⟨vf, rfl, hof, b1⟩
  have hof := Lib.hid hof
  go_wp2_with fail
  refine (l02Pair_any 4 v _ ns [(1, 0)] _ (hv.out.below b1 (Nat.le_refl _)) (nodes_of_own hof.out) hp (by simp) hn (by simp)).mono ?_
  rintro e w2 ⟨v2, rfl, ho, b2⟩
  have ho := Lib.hid (own_mono ho b1.size)
  go_wp2_with fail
  go_ret
  exact ⟨_, rfl, ho.out, b1.trans (b2.mono b1.size)⟩


theorem fals_flat (t : Tr) (ht : okT t) (hg : goodT t) : falsT t = true ↔ flat t = [(1, 0)] := by
  cases t with
  | nil => exact ht.elim
  | node b o n l r =>
    obtain ⟨x, y⟩ := n
    rcases good_cases ht hg with ⟨rfl, rfl, rfl, _, _⟩ | ⟨rfl, rfl, rfl, rfl⟩ | ⟨hx, rfl, _, _⟩ | ⟨hx, rfl, _, rfl⟩
    · simp [falsT, flat]
    · simp [falsT, flat]
    · rcases hx with rfl | rfl | rfl <;> simp [falsT, flat]
    · rcases hx with rfl | rfl <;> simp [falsT, flat]

theorem true_eq (b o : Nat) (l r : Tr) (h2 : okT l) (h3 : okT r) (hgl : goodT l) (hgr : goodT r) : decide (flat (.node b o (4, 0) l r) = [(4, 0), (1, 0), (1, 0)]) = (falsT r && falsT l) := by
  rw [Bool.eq_iff_iff, decide_eq_true_eq, Bool.and_eq_true, fals_flat l h2 hgl, fals_flat r h3 hgr]
  simp only [flat, List.cons.injEq, true_and]
  constructor
  · intro h
    have p1 := flat_pos l h2
    have p2 := flat_pos r h3
    have hl := congrArg List.length h
    simp at hl
    obtain ⟨a, ha⟩ := List.length_eq_one_iff.1 (show (flat l).length = 1 by omega)
    obtain ⟨c, hc⟩ := List.length_eq_one_iff.1 (show (flat r).length = 1 by omega)
    rw [ha, hc] at h ⊢
    simpa [and_comm] using h
  · rintro ⟨h1, h4⟩
    rw [h1, h4]; rfl

end Go.Proofs.Ytdpnkojchimmfaa
