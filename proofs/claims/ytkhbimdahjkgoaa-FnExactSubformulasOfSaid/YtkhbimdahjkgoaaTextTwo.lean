/- Walks of the text of a formula: the reference; FormulaText of both. -/
import Derived.Test.YtkhbimdahjkgoaaText
namespace Go.Proofs.Ytkhbimdahjkgoaa
open Go.RowKit Go.Deep

theorem l02False_any (w : World) :
    Calls Try.prog 63 #[] w fun e w' => ∃ v, e = .returned v ∧ w'.ownsRow w.heap.size 37 2 v 1 (cellsN [(1, 0)]) ∧ Below w.heap.size w w' := by
  have hl0 := Lib.hid (World.ownsRow_lit (e := 37) (base := w.heap.size) (size := 2) w #[.int .i64 1, .int .i64 0] 1 (Nat.le_refl _) (by simp [maxLen]) rfl)
  go_enter Try.func63, Try.ntmps63
  go_wp2_with fail
  go_ret
  exact ⟨_, rfl, hl0.out, (Below.refl _ _).alloc (Nat.le_refl _) _⟩

theorem l02Not_any (v : Value) (ns : List Nd) (w : World) (h : Nodes w v ns) (hp : 0 < ns.length) (hn : ns.length ≤ 1000) :
    Calls Try.prog 62 #[v] w fun e w' => ∃ v', e = .returned v' ∧ w'.ownsRow w.heap.size 37 2 v' (1 + ns.length + 1) (cellsN ((4, 0) :: ns ++ [(1, 0)])) ∧ Below w.heap.size w w' := by
  have hv := Lib.hid h
  clear h
  go_enter Try.func62, Try.ntmps62
  go_wp2_with fail
  refine (l02False_any _).mono ?_
  rintro e w1 ⟨vf, rfl, hof, b1⟩
  have hof := Lib.hid hof
  go_wp2_with fail
  refine (l02Pair_any 4 v _ ns [(1, 0)] _ (hv.out.below b1 (Nat.le_refl _)) (nodes_of_own hof.out) hp (by simp) hn (by simp)).mono ?_
  rintro e w2 ⟨v2, rfl, ho, b2⟩
  have ho := Lib.hid (own_mono ho b1.size)
  go_wp2_with fail
  go_ret
  exact ⟨_, rfl, ho.out, b1.trans (b2.mono b1.size)⟩

theorem l02True_any (w : World) :
    Calls Try.prog 45 #[] w fun e w' => ∃ v, e = .returned v ∧ w'.ownsRow w.heap.size 37 2 v 3 (cellsN [(4, 0), (1, 0), (1, 0)]) ∧ Below w.heap.size w w' := by
  go_enter Try.func45, Try.ntmps45
  go_wp2_with fail
  refine (l02False_any _).mono ?_
  rintro e w1 ⟨vf, rfl, hof, b1⟩
  have hof := Lib.hid hof
  go_wp2_with fail
  refine (l02Not_any _ [(1, 0)] _ (nodes_of_own hof.out) (by simp) (by simp)).mono ?_
  rintro e w2 ⟨v2, rfl, ho, b2⟩
  have ho := Lib.hid (own_mono ho b1.size)
  go_wp2_with fail
  go_ret
  exact ⟨_, rfl, ho.out, b1.trans (b2.mono b1.size)⟩

theorem fals_flat (t : Tr) (ht : okT t) (hg : goodT t) : falsT t = true ↔ flat t = [(1, 0)] := by
  cases t with
  | nil => exact ht.elim
  | node b o n l r =>
    obtain ⟨x, y⟩ := n
    rcases good_cases ht hg with ⟨rfl, rfl, rfl, _, _⟩ | ⟨rfl, rfl, rfl, rfl⟩ | ⟨hx, rfl, _, _⟩ | ⟨hx, rfl, _, rfl⟩
    · simp [falsT, flat]
    · simp [falsT, flat]
    · rcases hx with rfl | rfl | rfl <;> simp [falsT, flat]
    · rcases hx with rfl | rfl <;> simp [falsT, flat]

theorem true_eq (b o : Nat) (l r : Tr) (h2 : okT l) (h3 : okT r) (hgl : goodT l) (hgr : goodT r) : decide (flat (.node b o (4, 0) l r) = [(4, 0), (1, 0), (1, 0)]) = (falsT r && falsT l) := by
  rw [Bool.eq_iff_iff, decide_eq_true_eq, Bool.and_eq_true, fals_flat l h2 hgl, fals_flat r h3 hgr]
  simp only [flat, List.cons.injEq, true_and]
  constructor
  · intro h
    have p1 := flat_pos l h2
    have p2 := flat_pos r h3
    have hl := congrArg List.length h
    simp at hl
    obtain ⟨a, ha⟩ := List.length_eq_one_iff.1 (show (flat l).length = 1 by omega)
    obtain ⟨c, hc⟩ := List.length_eq_one_iff.1 (show (flat r).length = 1 by omega)
    rw [ha, hc] at h ⊢
    simpa [and_comm] using h
  · rintro ⟨h1, h4⟩
    rw [h1, h4]; rfl

set_option maxRecDepth 100000 in
set_option maxHeartbeats 4000000 in
theorem l02Write_any (t : Tr) : ∀ (v : Value) (w : World) (lev : Int), okT t → goodT t → Nodes w v (flat t) → (flat t).length ≤ 1000 →
    Calls Try.prog 33 #[v, .int .i64 lev] w fun e w' => e = .returned (.string (txt t lev)) ∧ Below w.heap.size w w' := by
  induction t with
  | nil => intro v w lev h; exact h.elim
  | node b0 o0 n l r ihl ihr =>
    intro v w lev ht hg h hn
    have IHL := Lib.hid ihl
    have IHR := Lib.hid ihr
    clear ihl ihr
    have hv := Lib.hid h
    obtain ⟨x, y⟩ := n
    have hp : 0 < (flat (.node b0 o0 (x, y) l r)).length := by simp [flat]
    have hlen : (flat (.node b0 o0 (x, y) l r)).length = 1 + (flat l).length + (flat r).length := by simp [flat]; omega
    obtain ⟨c, b, o, rfl, hmc, hcm, hcell⟩ := h.raw hp
    obtain ⟨hc0, hc1⟩ := node_head hcell.out
    simp only at hc0 hc1
    have hcellH := Lib.hid (show ∀ j u, (cellsN ((x, y) :: (flat l ++ flat r)))[j]? = some u → w.cell? ⟨b, o + j, none⟩ = some u from hcell.out)
    have hvn := Lib.hid (show Nodes w (.slice (some ⟨b, o, none⟩) (flat (.node b0 o0 (x, y) l r)).length c) ((x, y) :: (flat l ++ flat r)) from h)
    have hll : (flat l).length + (flat r).length ≤ 1000 := by omega
    have hgl := goodT_left hg
    have hgr := goodT_right hg
    have hcs := good_cases ht hg
    clear h hn hlen ht hg hcm hcell
    generalize hml : (flat (.node b0 o0 (x, y) l r)).length = m at *
    have hml := hml.symm
    obtain ⟨w0, hw0⟩ : ∃ w0, w0 = w := ⟨w, rfl⟩
    rcases hcs with ⟨rfl, rfl, rfl, y0, y5⟩ | ⟨rfl, rfl, rfl, rfl⟩ | ⟨hx, rfl, h2, h3⟩ | ⟨hx, rfl, h2, rfl⟩
    · obtain rfl := hw0
      have hy : y = 0 ∨ y = 1 ∨ y = 2 ∨ y = 3 ∨ y = 4 ∨ y = 5 := by omega
      have hf := Lib.hid (txtB_var (b := b0) (o := o0) (y := y) (l := .nil) (r := .nil))
      have hown := Lib.hid (show ownT (.node b0 o0 (0, y) .nil .nil) = 3 by simp [ownT])
      generalize (BT.node b0 o0 ((0 : Int), y) .nil .nil) = T at *
      clear hml hcellH
      rcases hy with rfl | rfl | rfl | rfl | rfl | rfl
      all_goals
        by_cases hlev : (3 : Int) < lev
        · have hff := Lib.hid (show txt T lev = ByteArray.mk #[40] ++ txtB T ++ ByteArray.mk #[41] from txt_out (by rw [hown.out]; exact hlev))
          go_enter Try.func33, Try.ntmps33
          go_wp2_with fail
          go_quiet (fail)
          go_wp2_with fail
          go_ret
          exact ⟨ret_str (by rw [hff.out, hf.out]; rfl), below_drewN' _ _⟩
        · have hff := Lib.hid (show txt T lev = txtB T from txt_in (by rw [hown.out]; exact hlev))
          go_enter Try.func33, Try.ntmps33
          go_wp2_with fail
          go_quiet (fail)
          go_wp2_with fail
          go_ret
          exact ⟨ret_str (by rw [hff.out, hf.out]; rfl), below_drewN' _ _⟩
    · obtain rfl := hw0
      have hf := Lib.hid (txtB_false (b := b0) (o := o0) (y := 0) (l := .nil) (r := .nil))
      have hown := Lib.hid (show ownT (.node b0 o0 (1, 0) .nil .nil) = 3 by simp [ownT])
      generalize (BT.node b0 o0 ((1 : Int), (0 : Int)) .nil .nil) = T at *
      clear hml hcellH
      by_cases hlev : (3 : Int) < lev
      · have hff := Lib.hid (show txt T lev = ByteArray.mk #[40] ++ txtB T ++ ByteArray.mk #[41] from txt_out (by rw [hown.out]; exact hlev))
        go_enter Try.func33, Try.ntmps33
        go_wp2_with fail
        go_ret
        exact ⟨ret_str (by rw [hff.out, hf.out]), Below.refl _ _⟩
      · have hff := Lib.hid (show txt T lev = txtB T from txt_in (by rw [hown.out]; exact hlev))
        go_enter Try.func33, Try.ntmps33
        go_wp2_with fail
        go_ret
        exact ⟨ret_str (by rw [hff.out, hf.out]), Below.refl _ _⟩
    · rcases hx with rfl | rfl | rfl
      · obtain rfl := hw0
        clear hml hcellH
        have hf := Lib.hid (show txtB (.node b0 o0 (2, 0) l r) = _ from txtB_and)
        have hown := Lib.hid (show ownT (.node b0 o0 (2, 0) l r) = 2 from by simp [ownT])
        have hle := Lib.hid (fun w (hb : Below w0.heap.size w0 w) => l02Left_any _ (2, 0) l r w (hvn.out.below hb (Nat.le_refl _)) h2 (by omega))
        have hri := Lib.hid (fun w (hb : Below w0.heap.size w0 w) => l02Right_any _ (2, 0) l r w (hvn.out.below hb (Nat.le_refl _)) h2 h3 (by omega))
        have hIL := Lib.hid (fun vl w => IHL.out vl w 2 h2 hgl)
        have hIR := Lib.hid (fun vr w => IHR.out vr w 3 h3 hgr)
        have sl1 : (txt l 2).size ≤ 4000 := by have := txt_size l 2 h2 hgl; omega
        have sr1 : (txt r 3).size ≤ 4000 := by have := txt_size r 3 h3 hgr; omega
        generalize txt l 2 = SL at *
        generalize txt r 3 = SR at *
        generalize (BT.node b0 o0 ((2 : Int), (0 : Int)) l r) = T at *
        by_cases hlev : (2 : Int) < lev
        · have hff := Lib.hid (show txt T lev = ByteArray.mk #[40] ++ txtB T ++ ByteArray.mk #[41] from txt_out (by rw [hown.out]; exact hlev))
          go_enter Try.func33, Try.ntmps33
          go_wp2_with fail
          refine (hle.out _ (Below.refl _ _)).mono ?_
          rintro e w' ⟨⟨vl, rfl, hvl⟩, rfl⟩
          have hvl := Lib.hid hvl
          go_wp2_with fail
          refine (hIL.out _ _ hvl.out (by omega)).mono ?_
          rintro e w1 ⟨rfl, b1⟩
          have B1 := b1
          go_wp2_with fail
          refine (hri.out _ B1).mono ?_
          rintro e w' ⟨⟨vr, rfl, hvr⟩, rfl⟩
          have hvr := Lib.hid hvr
          go_wp2_with fail
          refine (hIR.out _ _ hvr.out (by omega)).mono ?_
          rintro e w2 ⟨rfl, b2⟩
          go_wp2_with fail
          go_ret
          exact ⟨ret_str (by rw [hff.out, hf.out]), B1.trans (b2.mono B1.size)⟩
        · have hff := Lib.hid (show txt T lev = txtB T from txt_in (by rw [hown.out]; exact hlev))
          go_enter Try.func33, Try.ntmps33
          go_wp2_with fail
          refine (hle.out _ (Below.refl _ _)).mono ?_
          rintro e w' ⟨⟨vl, rfl, hvl⟩, rfl⟩
          have hvl := Lib.hid hvl
          go_wp2_with fail
          refine (hIL.out _ _ hvl.out (by omega)).mono ?_
          rintro e w1 ⟨rfl, b1⟩
          have B1 := b1
          go_wp2_with fail
          refine (hri.out _ B1).mono ?_
          rintro e w' ⟨⟨vr, rfl, hvr⟩, rfl⟩
          have hvr := Lib.hid hvr
          go_wp2_with fail
          refine (hIR.out _ _ hvr.out (by omega)).mono ?_
          rintro e w2 ⟨rfl, b2⟩
          go_wp2_with fail
          go_ret
          exact ⟨ret_str (by rw [hff.out, hf.out]), B1.trans (b2.mono B1.size)⟩
      · obtain rfl := hw0
        clear hml hcellH
        have hf := Lib.hid (show txtB (.node b0 o0 (3, 0) l r) = _ from txtB_or)
        have hown := Lib.hid (show ownT (.node b0 o0 (3, 0) l r) = 1 from by simp [ownT])
        have hle := Lib.hid (fun w (hb : Below w0.heap.size w0 w) => l02Left_any _ (3, 0) l r w (hvn.out.below hb (Nat.le_refl _)) h2 (by omega))
        have hri := Lib.hid (fun w (hb : Below w0.heap.size w0 w) => l02Right_any _ (3, 0) l r w (hvn.out.below hb (Nat.le_refl _)) h2 h3 (by omega))
        have hIL := Lib.hid (fun vl w => IHL.out vl w 1 h2 hgl)
        have hIR := Lib.hid (fun vr w => IHR.out vr w 2 h3 hgr)
        have sl1 : (txt l 1).size ≤ 4000 := by have := txt_size l 1 h2 hgl; omega
        have sr1 : (txt r 2).size ≤ 4000 := by have := txt_size r 2 h3 hgr; omega
        generalize txt l 1 = SL at *
        generalize txt r 2 = SR at *
        generalize (BT.node b0 o0 ((3 : Int), (0 : Int)) l r) = T at *
        by_cases hlev : (1 : Int) < lev
        · have hff := Lib.hid (show txt T lev = ByteArray.mk #[40] ++ txtB T ++ ByteArray.mk #[41] from txt_out (by rw [hown.out]; exact hlev))
          go_enter Try.func33, Try.ntmps33
          go_wp2_with fail
          refine (hle.out _ (Below.refl _ _)).mono ?_
          rintro e w' ⟨⟨vl, rfl, hvl⟩, rfl⟩
          have hvl := Lib.hid hvl
          go_wp2_with fail
          refine (hIL.out _ _ hvl.out (by omega)).mono ?_
          rintro e w1 ⟨rfl, b1⟩
          have B1 := b1
          go_wp2_with fail
          refine (hri.out _ B1).mono ?_
          rintro e w' ⟨⟨vr, rfl, hvr⟩, rfl⟩
          have hvr := Lib.hid hvr
          go_wp2_with fail
          refine (hIR.out _ _ hvr.out (by omega)).mono ?_
          rintro e w2 ⟨rfl, b2⟩
          go_wp2_with fail
          go_ret
          exact ⟨ret_str (by rw [hff.out, hf.out]), B1.trans (b2.mono B1.size)⟩
        · have hff := Lib.hid (show txt T lev = txtB T from txt_in (by rw [hown.out]; exact hlev))
          go_enter Try.func33, Try.ntmps33
          go_wp2_with fail
          refine (hle.out _ (Below.refl _ _)).mono ?_
          rintro e w' ⟨⟨vl, rfl, hvl⟩, rfl⟩
          have hvl := Lib.hid hvl
          go_wp2_with fail
          refine (hIL.out _ _ hvl.out (by omega)).mono ?_
          rintro e w1 ⟨rfl, b1⟩
          have B1 := b1
          go_wp2_with fail
          refine (hri.out _ B1).mono ?_
          rintro e w' ⟨⟨vr, rfl, hvr⟩, rfl⟩
          have hvr := Lib.hid hvr
          go_wp2_with fail
          refine (hIR.out _ _ hvr.out (by omega)).mono ?_
          rintro e w2 ⟨rfl, b2⟩
          go_wp2_with fail
          go_ret
          exact ⟨ret_str (by rw [hff.out, hf.out]), B1.trans (b2.mono B1.size)⟩
      · cases hr : falsT r
        · obtain rfl := hw0
          clear hml hcellH
          have heq := Lib.hid (fun v' w (h' : Nodes w v' [(4, 0), (1, 0), (1, 0)]) (hb : Below w0.heap.size w0 w) => l02Equal_any _ v' (flat (.node b0 o0 (4, 0) l r)) [(4, 0), (1, 0), (1, 0)] w (hv.out.below hb (Nat.le_refl _)) h' (by simp [flat]; omega))
          have hte := Lib.hid (true_eq b0 o0 l r h2 h3 hgl hgr)
          have hri0 := Lib.hid (fun w (hb : Below w0.heap.size w0 w) => l02Right_any _ (4, 0) l r w (hvn.out.below hb (Nat.le_refl _)) h2 h3 (by omega))
          have hteq := Lib.hid (show decide (flat (.node b0 o0 (4, 0) l r) = [(4, 0), (1, 0), (1, 0)]) = false by rw [hte.out, hr]; rfl)
          have hrh := Lib.hid hr
          have hf := Lib.hid (show txtB (.node b0 o0 (4, 0) l r) = _ from txtB_imp hr)
          have hown := Lib.hid (show ownT (.node b0 o0 (4, 0) l r) = 0 from by simp [ownT, hr])
          have hle := Lib.hid (fun w (hb : Below w0.heap.size w0 w) => l02Left_any _ (4, 0) l r w (hvn.out.below hb (Nat.le_refl _)) h2 (by omega))
          have hri := Lib.hid (fun w (hb : Below w0.heap.size w0 w) => l02Right_any _ (4, 0) l r w (hvn.out.below hb (Nat.le_refl _)) h2 h3 (by omega))
          have hIL := Lib.hid (fun vl w => IHL.out vl w 1 h2 hgl)
          have hIR := Lib.hid (fun vr w => IHR.out vr w 0 h3 hgr)
          have sl1 : (txt l 1).size ≤ 4000 := by have := txt_size l 1 h2 hgl; omega
          have sr1 : (txt r 0).size ≤ 4000 := by have := txt_size r 0 h3 hgr; omega
          generalize txt l 1 = SL at *
          generalize txt r 0 = SR at *
          clear hr
          by_cases hlev : (0 : Int) < lev
          · have hff := Lib.hid (show txt (.node b0 o0 (4, 0) l r) lev = ByteArray.mk #[40] ++ txtB (.node b0 o0 (4, 0) l r) ++ ByteArray.mk #[41] from txt_out (by rw [hown.out]; exact hlev))
            go_enter Try.func33, Try.ntmps33
            go_wp2_with fail
            refine (l02True_any _).mono ?_
            rintro e wt ⟨vt, rfl, hot, bt⟩
            have hot := Lib.hid hot
            go_wp2_with fail
            refine (heq.out _ _ (nodes_of_own hot.out) bt).mono ?_
            rintro e wq ⟨rfl, bq⟩
            have bq := bt.trans (bq.mono bt.size)
            rw [hteq.out]
            go_wp2_with fail
            refine (hri0.out _ bq).mono ?_
            rintro e w' ⟨⟨vr0, rfl, hvr0⟩, rfl⟩
            obtain ⟨rb0, ro0, rx, ry, rl, rr, hrt⟩ : ∃ rb0 ro0 rx ry rl rr, r = .node rb0 ro0 (rx, ry) rl rr := by
              cases r with
              | nil => exact h3.elim
              | node a b n c d => exact ⟨a, b, n.1, n.2, c, d, rfl⟩
            have hvr1 : Nodes wq vr0 (flat (.node rb0 ro0 (rx, ry) rl rr)) := by rw [← hrt]; exact hvr0
            obtain ⟨rc, rb, ro, rm, rfl, hrm0, hrmc, _, hrc0, _⟩ := tree_head hvr1
            have hrx : (rx == 1) = false := by
              have := hrh.out
              rw [hrt] at this
              simp only [falsT] at this
              exact this
            have hrt := Lib.hid hrt
            clear hvr0 hvr1
            go_wp2_with fail
            refine (hle.out _ bq).mono ?_
            rintro e w' ⟨⟨vl, rfl, hvl⟩, rfl⟩
            have hvl := Lib.hid hvl
            go_wp2_with fail
            refine (hIL.out _ _ hvl.out (by omega)).mono ?_
            rintro e w1 ⟨rfl, b1⟩
            have B1 := bq.trans (b1.mono bq.size)
            go_wp2_with fail
            refine (hri.out _ B1).mono ?_
            rintro e w' ⟨⟨vr, rfl, hvr⟩, rfl⟩
            have hvr := Lib.hid hvr
            go_wp2_with fail
            refine (hIR.out _ _ hvr.out (by omega)).mono ?_
            rintro e w2 ⟨rfl, b2⟩
            go_wp2_with fail
            go_ret
            exact ⟨ret_str (by rw [hff.out, hf.out]), B1.trans (b2.mono B1.size)⟩
          · have hff := Lib.hid (show txt (.node b0 o0 (4, 0) l r) lev = txtB (.node b0 o0 (4, 0) l r) from txt_in (by rw [hown.out]; exact hlev))
            go_enter Try.func33, Try.ntmps33
            go_wp2_with fail
            refine (l02True_any _).mono ?_
            rintro e wt ⟨vt, rfl, hot, bt⟩
            have hot := Lib.hid hot
            go_wp2_with fail
            refine (heq.out _ _ (nodes_of_own hot.out) bt).mono ?_
            rintro e wq ⟨rfl, bq⟩
            have bq := bt.trans (bq.mono bt.size)
            rw [hteq.out]
            go_wp2_with fail
            refine (hri0.out _ bq).mono ?_
            rintro e w' ⟨⟨vr0, rfl, hvr0⟩, rfl⟩
            obtain ⟨rb0, ro0, rx, ry, rl, rr, hrt⟩ : ∃ rb0 ro0 rx ry rl rr, r = .node rb0 ro0 (rx, ry) rl rr := by
              cases r with
              | nil => exact h3.elim
              | node a b n c d => exact ⟨a, b, n.1, n.2, c, d, rfl⟩
            have hvr1 : Nodes wq vr0 (flat (.node rb0 ro0 (rx, ry) rl rr)) := by rw [← hrt]; exact hvr0
            obtain ⟨rc, rb, ro, rm, rfl, hrm0, hrmc, _, hrc0, _⟩ := tree_head hvr1
            have hrx : (rx == 1) = false := by
              have := hrh.out
              rw [hrt] at this
              simp only [falsT] at this
              exact this
            have hrt := Lib.hid hrt
            clear hvr0 hvr1
            go_wp2_with fail
            refine (hle.out _ bq).mono ?_
            rintro e w' ⟨⟨vl, rfl, hvl⟩, rfl⟩
            have hvl := Lib.hid hvl
            go_wp2_with fail
            refine (hIL.out _ _ hvl.out (by omega)).mono ?_
            rintro e w1 ⟨rfl, b1⟩
            have B1 := bq.trans (b1.mono bq.size)
            go_wp2_with fail
            refine (hri.out _ B1).mono ?_
            rintro e w' ⟨⟨vr, rfl, hvr⟩, rfl⟩
            have hvr := Lib.hid hvr
            go_wp2_with fail
            refine (hIR.out _ _ hvr.out (by omega)).mono ?_
            rintro e w2 ⟨rfl, b2⟩
            go_wp2_with fail
            go_ret
            exact ⟨ret_str (by rw [hff.out, hf.out]), B1.trans (b2.mono B1.size)⟩
        · cases hl : falsT l
          · obtain rfl := hw0
            clear hml hcellH
            have heq := Lib.hid (fun v' w (h' : Nodes w v' [(4, 0), (1, 0), (1, 0)]) (hb : Below w0.heap.size w0 w) => l02Equal_any _ v' (flat (.node b0 o0 (4, 0) l r)) [(4, 0), (1, 0), (1, 0)] w (hv.out.below hb (Nat.le_refl _)) h' (by simp [flat]; omega))
            have hte := Lib.hid (true_eq b0 o0 l r h2 h3 hgl hgr)
            have hri0 := Lib.hid (fun w (hb : Below w0.heap.size w0 w) => l02Right_any _ (4, 0) l r w (hvn.out.below hb (Nat.le_refl _)) h2 h3 (by omega))
            have hteq := Lib.hid (show decide (flat (.node b0 o0 (4, 0) l r) = [(4, 0), (1, 0), (1, 0)]) = false by rw [hte.out, hr, hl]; rfl)
            have hrh := Lib.hid hr
            have hf := Lib.hid (show txtB (.node b0 o0 (4, 0) l r) = _ from txtB_not hr hl)
            have hown := Lib.hid (show ownT (.node b0 o0 (4, 0) l r) = 3 by simp [ownT, hr])
            have hle := Lib.hid (fun w (hb : Below w0.heap.size w0 w) => l02Left_any _ (4, 0) l r w (hvn.out.below hb (Nat.le_refl _)) h2 (by omega))
            have hIL := Lib.hid (fun vl w => IHL.out vl w 3 h2 hgl)
            have sl1 : (txt l 3).size ≤ 4000 := by have := txt_size l 3 h2 hgl; omega
            generalize txt l 3 = SL at *
            clear hr hl
            by_cases hlev : (3 : Int) < lev
            · have hff := Lib.hid (show txt (.node b0 o0 (4, 0) l r) lev = ByteArray.mk #[40] ++ txtB (.node b0 o0 (4, 0) l r) ++ ByteArray.mk #[41] from txt_out (by rw [hown.out]; exact hlev))
              go_enter Try.func33, Try.ntmps33
              go_wp2_with fail
              refine (l02True_any _).mono ?_
              rintro e wt ⟨vt, rfl, hot, bt⟩
              have hot := Lib.hid hot
              go_wp2_with fail
              refine (heq.out _ _ (nodes_of_own hot.out) bt).mono ?_
              rintro e wq ⟨rfl, bq⟩
              have bq := bt.trans (bq.mono bt.size)
              rw [hteq.out]
              go_wp2_with fail
              refine (hri0.out _ bq).mono ?_
              rintro e w' ⟨⟨vr0, rfl, hvr0⟩, rfl⟩
              obtain ⟨rb0, ro0, rx, ry, rl, rr, hrt⟩ : ∃ rb0 ro0 rx ry rl rr, r = .node rb0 ro0 (rx, ry) rl rr := by
                cases r with
                | nil => exact h3.elim
                | node a b n c d => exact ⟨a, b, n.1, n.2, c, d, rfl⟩
              have hvr1 : Nodes wq vr0 (flat (.node rb0 ro0 (rx, ry) rl rr)) := by rw [← hrt]; exact hvr0
              obtain ⟨rc, rb, ro, rm, rfl, hrm0, hrmc, _, hrc0, _⟩ := tree_head hvr1
              have hrx : (rx == 1) = true := by
                have := hrh.out
                rw [hrt] at this
                simp only [falsT] at this
                exact this
              have hrt := Lib.hid hrt
              clear hvr0 hvr1
              go_wp2_with fail
              refine (hle.out _ bq).mono ?_
              rintro e w' ⟨⟨vl, rfl, hvl⟩, rfl⟩
              have hvl := Lib.hid hvl
              go_wp2_with fail
              refine (hIL.out _ _ hvl.out (by omega)).mono ?_
              rintro e w1 ⟨rfl, b1⟩
              have B1 := bq.trans (b1.mono bq.size)
              go_wp2_with fail
              go_ret
              exact ⟨ret_str (by rw [hff.out, hf.out]), B1⟩
            · have hff := Lib.hid (show txt (.node b0 o0 (4, 0) l r) lev = txtB (.node b0 o0 (4, 0) l r) from txt_in (by rw [hown.out]; exact hlev))
              go_enter Try.func33, Try.ntmps33
              go_wp2_with fail
              refine (l02True_any _).mono ?_
              rintro e wt ⟨vt, rfl, hot, bt⟩
              have hot := Lib.hid hot
              go_wp2_with fail
              refine (heq.out _ _ (nodes_of_own hot.out) bt).mono ?_
              rintro e wq ⟨rfl, bq⟩
              have bq := bt.trans (bq.mono bt.size)
              rw [hteq.out]
              go_wp2_with fail
              refine (hri0.out _ bq).mono ?_
              rintro e w' ⟨⟨vr0, rfl, hvr0⟩, rfl⟩
              obtain ⟨rb0, ro0, rx, ry, rl, rr, hrt⟩ : ∃ rb0 ro0 rx ry rl rr, r = .node rb0 ro0 (rx, ry) rl rr := by
                cases r with
                | nil => exact h3.elim
                | node a b n c d => exact ⟨a, b, n.1, n.2, c, d, rfl⟩
              have hvr1 : Nodes wq vr0 (flat (.node rb0 ro0 (rx, ry) rl rr)) := by rw [← hrt]; exact hvr0
              obtain ⟨rc, rb, ro, rm, rfl, hrm0, hrmc, _, hrc0, _⟩ := tree_head hvr1
              have hrx : (rx == 1) = true := by
                have := hrh.out
                rw [hrt] at this
                simp only [falsT] at this
                exact this
              have hrt := Lib.hid hrt
              clear hvr0 hvr1
              go_wp2_with fail
              refine (hle.out _ bq).mono ?_
              rintro e w' ⟨⟨vl, rfl, hvl⟩, rfl⟩
              have hvl := Lib.hid hvl
              go_wp2_with fail
              refine (hIL.out _ _ hvl.out (by omega)).mono ?_
              rintro e w1 ⟨rfl, b1⟩
              have B1 := bq.trans (b1.mono bq.size)
              go_wp2_with fail
              go_ret
              exact ⟨ret_str (by rw [hff.out, hf.out]), B1⟩
          · obtain rfl := hw0
            clear hml hcellH
            have heq := Lib.hid (fun v' w (h' : Nodes w v' [(4, 0), (1, 0), (1, 0)]) (hb : Below w0.heap.size w0 w) => l02Equal_any _ v' (flat (.node b0 o0 (4, 0) l r)) [(4, 0), (1, 0), (1, 0)] w (hv.out.below hb (Nat.le_refl _)) h' (by simp [flat]; omega))
            have hte := Lib.hid (true_eq b0 o0 l r h2 h3 hgl hgr)
            have hteq := Lib.hid (show decide (flat (.node b0 o0 (4, 0) l r) = [(4, 0), (1, 0), (1, 0)]) = true by rw [hte.out, hr, hl]; rfl)
            have hf := Lib.hid (show txtB (.node b0 o0 (4, 0) l r) = _ from txtB_true hr hl)
            have hown := Lib.hid (show ownT (.node b0 o0 (4, 0) l r) = 3 by simp [ownT, hr])
            clear hr hl
            by_cases hlev : (3 : Int) < lev
            · have hff := Lib.hid (show txt (.node b0 o0 (4, 0) l r) lev = ByteArray.mk #[40] ++ txtB (.node b0 o0 (4, 0) l r) ++ ByteArray.mk #[41] from txt_out (by rw [hown.out]; exact hlev))
              go_enter Try.func33, Try.ntmps33
              go_wp2_with fail
              refine (l02True_any _).mono ?_
              rintro e wt ⟨vt, rfl, hot, bt⟩
              have hot := Lib.hid hot
              go_wp2_with fail
              refine (heq.out _ _ (nodes_of_own hot.out) bt).mono ?_
              rintro e wq ⟨rfl, bq⟩
              have bq := bt.trans (bq.mono bt.size)
              rw [hteq.out]
              go_wp2_with fail
              go_ret
              exact ⟨ret_str (by rw [hff.out, hf.out]), bq⟩
            · have hff := Lib.hid (show txt (.node b0 o0 (4, 0) l r) lev = txtB (.node b0 o0 (4, 0) l r) from txt_in (by rw [hown.out]; exact hlev))
              go_enter Try.func33, Try.ntmps33
              go_wp2_with fail
              refine (l02True_any _).mono ?_
              rintro e wt ⟨vt, rfl, hot, bt⟩
              have hot := Lib.hid hot
              go_wp2_with fail
              refine (heq.out _ _ (nodes_of_own hot.out) bt).mono ?_
              rintro e wq ⟨rfl, bq⟩
              have bq := bt.trans (bq.mono bt.size)
              rw [hteq.out]
              go_wp2_with fail
              go_ret
              exact ⟨ret_str (by rw [hff.out, hf.out]), bq⟩
    · rcases hx with rfl | rfl
      · obtain rfl := hw0
        have hf := Lib.hid (show txtB (.node b0 o0 (5, 0) l .nil) = _ from txtB_box)
        have hown := Lib.hid (show ownT (.node b0 o0 (5, 0) l .nil) = 3 by simp [ownT])
        have hIL := Lib.hid (fun vl w => IHL.out vl w 3 h2 hgl)
        have sl1 : (txt l 3).size ≤ 4000 := by have := txt_size l 3 h2 hgl; simp [flat] at hll; omega
        generalize txt l 3 = SL at *
        have hlen1 : m = (flat l).length + 1 := by rw [hml]; simp [flat]
        have htail := Lib.hid (node_tail (c := c - 1) (show ∀ j u, (cellsN ((5, 0) :: flat l))[j]? = some u → w0.cell? ⟨b, o + j, none⟩ = some u by simpa [flat] using hcellH.out) (by omega) (by unfold maxLen; simp [flat] at hll; omega))
        have hpl := flat_pos l h2
        have hmm : m - 1 = (flat l).length := by omega
        have hc1c : 1 < c := by omega
        have hm1 : 1 < m := by omega
        generalize (BT.node b0 o0 ((5 : Int), (0 : Int)) l .nil) = T at *
        clear hml hcellH
        have hIL2 := Lib.hid (show ∀ vl w, Nodes w vl (flat l) → _ from fun vl w hh => hIL.out vl w hh (by simp [flat] at hll; omega))
        obtain ⟨m', rfl⟩ : ∃ m', m = m' + 1 := ⟨m - 1, by omega⟩
        obtain rfl : m' = (flat l).length := by omega
        clear hlen1 hmm hll
        by_cases hlev : (3 : Int) < lev
        · have hff := Lib.hid (show txt T lev = ByteArray.mk #[40] ++ txtB T ++ ByteArray.mk #[41] from txt_out (by rw [hown.out]; exact hlev))
          go_enter Try.func33, Try.ntmps33
          go_wp2_with fail
          refine (hIL2.out _ _ ?_).mono ?_
          · exact htail.out
          rintro e w1 ⟨rfl, b1⟩
          go_wp2_with fail
          go_ret
          exact ⟨ret_str (by rw [hff.out, hf.out]), b1⟩
        · have hff := Lib.hid (show txt T lev = txtB T from txt_in (by rw [hown.out]; exact hlev))
          go_enter Try.func33, Try.ntmps33
          go_wp2_with fail
          refine (hIL2.out _ _ ?_).mono ?_
          · exact htail.out
          rintro e w1 ⟨rfl, b1⟩
          go_wp2_with fail
          go_ret
          exact ⟨ret_str (by rw [hff.out, hf.out]), b1⟩
      · obtain rfl := hw0
        have hf := Lib.hid (show txtB (.node b0 o0 (6, 0) l .nil) = _ from txtB_dia)
        have hown := Lib.hid (show ownT (.node b0 o0 (6, 0) l .nil) = 3 by simp [ownT])
        have hIL := Lib.hid (fun vl w => IHL.out vl w 3 h2 hgl)
        have sl1 : (txt l 3).size ≤ 4000 := by have := txt_size l 3 h2 hgl; simp [flat] at hll; omega
        generalize txt l 3 = SL at *
        have hlen1 : m = (flat l).length + 1 := by rw [hml]; simp [flat]
        have htail := Lib.hid (node_tail (c := c - 1) (show ∀ j u, (cellsN ((6, 0) :: flat l))[j]? = some u → w0.cell? ⟨b, o + j, none⟩ = some u by simpa [flat] using hcellH.out) (by omega) (by unfold maxLen; simp [flat] at hll; omega))
        have hpl := flat_pos l h2
        have hmm : m - 1 = (flat l).length := by omega
        have hc1c : 1 < c := by omega
        have hm1 : 1 < m := by omega
        generalize (BT.node b0 o0 ((6 : Int), (0 : Int)) l .nil) = T at *
        clear hml hcellH
        have hIL2 := Lib.hid (show ∀ vl w, Nodes w vl (flat l) → _ from fun vl w hh => hIL.out vl w hh (by simp [flat] at hll; omega))
        obtain ⟨m', rfl⟩ : ∃ m', m = m' + 1 := ⟨m - 1, by omega⟩
        obtain rfl : m' = (flat l).length := by omega
        clear hlen1 hmm hll
        by_cases hlev : (3 : Int) < lev
        · have hff := Lib.hid (show txt T lev = ByteArray.mk #[40] ++ txtB T ++ ByteArray.mk #[41] from txt_out (by rw [hown.out]; exact hlev))
          go_enter Try.func33, Try.ntmps33
          go_wp2_with fail
          refine (hIL2.out _ _ ?_).mono ?_
          · exact htail.out
          rintro e w1 ⟨rfl, b1⟩
          go_wp2_with fail
          go_ret
          exact ⟨ret_str (by rw [hff.out, hf.out]), b1⟩
        · have hff := Lib.hid (show txt T lev = txtB T from txt_in (by rw [hown.out]; exact hlev))
          go_enter Try.func33, Try.ntmps33
          go_wp2_with fail
          refine (hIL2.out _ _ ?_).mono ?_
          · exact htail.out
          rintro e w1 ⟨rfl, b1⟩
          go_wp2_with fail
          go_ret
          exact ⟨ret_str (by rw [hff.out, hf.out]), b1⟩
end Go.Proofs.Ytkhbimdahjkgoaa
