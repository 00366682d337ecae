/- Walks of the text of a formula, of the program and of the reference. -/
import Derived.Test.YtkhbimdahjkgoaaTextMath
import Derived.Test.YtkhbimdahjkgoaaJoinTwo
import Derived.Test.YtkhbimdahjkgoaaEq
import Derived.WalkLawsBesides
import Derived.IntWalk
namespace Go.Proofs.Ytkhbimdahjkgoaa
open Go.RowKit Go.Deep

/-- What a tree's slice shows of its first node. -/
theorem tree_head {w : World} {v : Value} {b0 o0 : Nat} {x y : Int} {l r : Tr} (h : Nodes w v (flat (.node b0 o0 (x, y) l r))) : ∃ c b o m, v = .slice (some ⟨b, o, none⟩) m c ∧ 0 < m ∧ m ≤ c ∧ m = (flat (.node b0 o0 (x, y) l r)).length ∧ w.cell? ⟨b, o, none⟩ = some (.int .i64 x) ∧ w.cell? ⟨b, o + 1, none⟩ = some (.int .i64 y) := by
  have hp : 0 < (flat (.node b0 o0 (x, y) l r)).length := by simp [flat]
  obtain ⟨c, b, o, rfl, hc, hcm, hcell⟩ := h.raw hp
  obtain ⟨hc0, hc1⟩ := node_head hcell.out
  exact ⟨c, b, o, _, rfl, hp, hc, rfl, hc0, hc1⟩

theorem ret_str {a b : ByteArray} (h : a = b) : Ending.returned (.string a) = .returned (.string b) := by rw [h]

theorem isFalsum_any (t : Tr) (v : Value) (w : World) (ht : okT t) (h : Nodes w v (flat t)) :
    Calls Try.prog 50 #[v] w fun e w' => e = .returned (.bool (falsT t)) ∧ w = w' := by
  cases t with
  | nil => exact ht.elim
  | node b0 o0 n l r =>
    obtain ⟨x, y⟩ := n
    obtain ⟨c, b, o, m, rfl, hm0, hmc, _, hc0, hc1⟩ := tree_head h
    have hf := Lib.hid (show falsT (.node b0 o0 (x, y) l r) = (x == 1) by simp [falsT]; rfl)
    clear h ht
    go_enter Try.func50, Try.ntmps50
    go_wp2_with fail
    go_ret
    exact ⟨ret_bool hf.out.symm, rfl⟩

theorem isNegation_four (b0 o0 : Nat) (y : Int) (l r : Tr) (v : Value) (w : World) (h2 : okT l) (h3 : okT r) (h : Nodes w v (flat (.node b0 o0 (4, y) l r))) (hn : (flat l).length + (flat r).length ≤ 1000) :
    Calls Try.prog 49 #[v] w fun e w' => e = .returned (.bool (falsT r)) ∧ w = w' := by
  have hv := Lib.hid h
  obtain ⟨c, b, o, m, rfl, hm0, hmc, hml, hc0, hc1⟩ := tree_head h
  have hse := Lib.hid (second_any _ (4, y) l r w (show Nodes w _ ((4, y) :: (flat l ++ flat r)) from hv.out) h2 h3 (by omega))
  clear h hn hml
  go_enter Try.func49, Try.ntmps49
  go_wp2_with fail
  refine hse.out.mono ?_
  rintro e w' ⟨⟨vr, rfl, hvr⟩, rfl⟩
  have hvr := Lib.hid hvr
  go_wp2_with fail
  refine (isFalsum_any r _ _ h3 hvr.out).mono ?_
  rintro e w' ⟨rfl, rfl⟩
  go_wp2_with fail
  go_ret
  exact ⟨rfl, rfl⟩

set_option maxHeartbeats 800000 in
theorem levelOf_any (t : Tr) (v : Value) (w : World) (ht : okT t) (hg : goodT t) (h : Nodes w v (flat t)) (hn : (flat t).length ≤ 1000) :
    Calls Try.prog 46 #[v] w fun e w' => e = .returned (.int .i64 (ownT t)) ∧ w = w' := by
  cases t with
  | nil => exact ht.elim
  | node b0 o0 n l r =>
    obtain ⟨x, y⟩ := n
    have hv := Lib.hid h
    obtain ⟨c, b, o, m, rfl, hm0, hmc, hml, hc0, hc1⟩ := tree_head h
    have hcs := good_cases ht hg
    clear h
    rcases hcs with ⟨rfl, rfl, rfl, y0, y5⟩ | ⟨rfl, rfl, rfl, rfl⟩ | ⟨hx, rfl, h2, h3⟩ | ⟨hx, rfl, h2, rfl⟩
    rotate_left 2
    · rcases hx with rfl | rfl | rfl
      rotate_left 2
      · have hne := Lib.hid (isNegation_four b0 o0 0 l r _ w h2 h3 hv.out (by simp [flat] at hn; omega))
        cases hr : falsT r
        all_goals
          have hf := Lib.hid (show ownT (.node b0 o0 (4, 0) l r) = _ by simp only [ownT, hr]; rfl)
          have hrh := Lib.hid hr
          clear hr hn hml ht hg
          go_enter Try.func46, Try.ntmps46
          go_wp2_with fail
          refine hne.out.mono ?_
          rintro e w' ⟨rfl, rfl⟩
          rw [hrh.out]
          go_wp2_with fail
          go_ret
          exact ⟨ret_int hf.out.symm, rfl⟩
      all_goals
        clear hn hml ht hg
        go_enter Try.func46, Try.ntmps46
        go_wp2_with fail
        go_ret
        exact ⟨ret_int (by simp [ownT]), rfl⟩
    · rcases hx with rfl | rfl
      all_goals
        clear hn hml ht hg
        go_enter Try.func46, Try.ntmps46
        go_wp2_with fail
        go_ret
        exact ⟨ret_int (by simp [ownT]), rfl⟩
    all_goals
      clear hn hml ht hg
      go_enter Try.func46, Try.ntmps46
      go_wp2_with fail
      go_ret
      exact ⟨ret_int (by simp [ownT]), rfl⟩

set_option maxRecDepth 100000 in
set_option maxHeartbeats 4000000 in
theorem textAt_any (t : Tr) : ∀ (v : Value) (w : World) (lev : Int), okT t → goodT t → Nodes w v (flat t) → (flat t).length ≤ 1000 →
    Calls Try.prog 39 #[v, .int .i64 lev] w fun e w' => e = .returned (.string (txt t lev)) ∧ Below w.heap.size w w' := by
  induction t with
  | nil => intro v w lev h; exact h.elim
  | node b0 o0 n l r ihl ihr =>
    intro v w lev ht hg h hn
    have IHL := Lib.hid ihl
    have IHR := Lib.hid ihr
    clear ihl ihr
    have key : ∀ (w : World) (lev : Int), ¬ ownT (.node b0 o0 n l r) < lev → Nodes w v (flat (.node b0 o0 n l r)) → Calls Try.prog 39 #[v, .int .i64 lev] w fun e w' => e = .returned (.string (txtB (.node b0 o0 n l r))) ∧ Below w.heap.size w w' := by
      clear h
      intro w lev hlev h
      have hv := Lib.hid h
      obtain ⟨x, y⟩ := n
      have hvn := Lib.hid (show Nodes w v ((x, y) :: (flat l ++ flat r)) from h)
      obtain ⟨c, b, o, m, rfl, hm0, hmc, hml, hc0, hc1⟩ := tree_head h
      have hlen : (flat (.node b0 o0 (x, y) l r)).length = 1 + (flat l).length + (flat r).length := by simp [flat]; omega
      have hll : (flat l).length + (flat r).length ≤ 1000 := by omega
      have hlv := Lib.hid (levelOf_any (.node b0 o0 (x, y) l r) _ w ht hg h hn)
      have hgl := goodT_left hg
      have hgr := goodT_right hg
      have hcs := good_cases ht hg
      clear h hn hml hlen ht hg
      generalize hown : ownT (.node b0 o0 (x, y) l r) = own at *
      rcases hcs with ⟨rfl, rfl, rfl, y0, y5⟩ | ⟨rfl, rfl, rfl, rfl⟩ | ⟨hx, rfl, h2, h3⟩ | ⟨hx, rfl, h2, rfl⟩
      · have hf := Lib.hid (txtB_var (b := b0) (o := o0) (y := y) (l := .nil) (r := .nil))
        clear hown
        have hy : y = 0 ∨ y = 1 ∨ y = 2 ∨ y = 3 ∨ y = 4 ∨ y = 5 := by omega
        rcases hy with rfl | rfl | rfl | rfl | rfl | rfl
        all_goals
          go_enter Try.func39, Try.ntmps39
          go_wp2_with fail
          refine hlv.out.mono ?_
          rintro e w' ⟨rfl, rfl⟩
          go_wp2_with fail
          go_quiet (fail)
          go_wp2_with fail
          go_ret
          exact ⟨ret_str (by rw [hf.out]; rfl), below_drewN' _ _⟩
      · have hf := Lib.hid (txtB_false (b := b0) (o := o0) (y := 0) (l := .nil) (r := .nil))
        clear hown
        go_enter Try.func39, Try.ntmps39
        go_wp2_with fail
        refine hlv.out.mono ?_
        rintro e w' ⟨rfl, rfl⟩
        go_wp2_with fail
        go_ret
        exact ⟨ret_str (by rw [hf.out]), Below.refl _ _⟩
      · have hfi := Lib.hid (first_any _ (x, 0) l r w hvn.out h2 (by omega))
        have sl := fun k => txt_size l k h2 hgl
        have sr := fun k => txt_size r k h3 hgr
        rcases hx with rfl | rfl | rfl
        · have hf := Lib.hid (txtB_and (b := b0) (o := o0) (y := 0) (l := l) (r := r))
          have hIL := Lib.hid (fun vl w => IHL.out vl w 2 h2 hgl)
          have hIR := Lib.hid (fun vr w => IHR.out vr w 3 h3 hgr)
          have sl1 : (txt l 2).size ≤ 4000 := by have := sl 2; omega
          have sr1 : (txt r 3).size ≤ 4000 := by have := sr 3; omega
          generalize txt l 2 = SL at *
          generalize txt r 3 = SR at *
          clear hown sl sr
          go_enter Try.func39, Try.ntmps39
          go_wp2_with fail
          refine hlv.out.mono ?_
          rintro e w' ⟨rfl, rfl⟩
          go_wp2_with fail
          refine hfi.out.mono ?_
          rintro e w' ⟨⟨vl, rfl, hvl⟩, rfl⟩
          have hvl := Lib.hid hvl
          go_wp2_with fail
          refine (hIL.out _ _ hvl.out (by omega)).mono ?_
          rintro e w1 ⟨rfl, b1⟩
          go_wp2_with fail
          refine (second_any _ _ l r _ (hvn.out.below b1 (Nat.le_refl _)) h2 h3 (by omega)).mono ?_
          rintro e w' ⟨⟨vr, rfl, hvr⟩, rfl⟩
          have hvr := Lib.hid hvr
          go_wp2_with fail
          refine (hIR.out _ _ hvr.out (by omega)).mono ?_
          rintro e w2 ⟨rfl, b2⟩
          go_wp2_with fail
          go_ret
          exact ⟨ret_str (by rw [hf.out]), b1.trans (b2.mono b1.size)⟩
        · have hf := Lib.hid (txtB_or (b := b0) (o := o0) (y := 0) (l := l) (r := r))
          have hIL := Lib.hid (fun vl w => IHL.out vl w 1 h2 hgl)
          have hIR := Lib.hid (fun vr w => IHR.out vr w 2 h3 hgr)
          have sl1 : (txt l 1).size ≤ 4000 := by have := sl 1; omega
          have sr1 : (txt r 2).size ≤ 4000 := by have := sr 2; omega
          generalize txt l 1 = SL at *
          generalize txt r 2 = SR at *
          clear hown sl sr
          go_enter Try.func39, Try.ntmps39
          go_wp2_with fail
          refine hlv.out.mono ?_
          rintro e w' ⟨rfl, rfl⟩
          go_wp2_with fail
          refine hfi.out.mono ?_
          rintro e w' ⟨⟨vl, rfl, hvl⟩, rfl⟩
          have hvl := Lib.hid hvl
          go_wp2_with fail
          refine (hIL.out _ _ hvl.out (by omega)).mono ?_
          rintro e w1 ⟨rfl, b1⟩
          go_wp2_with fail
          refine (second_any _ _ l r _ (hvn.out.below b1 (Nat.le_refl _)) h2 h3 (by omega)).mono ?_
          rintro e w' ⟨⟨vr, rfl, hvr⟩, rfl⟩
          have hvr := Lib.hid hvr
          go_wp2_with fail
          refine (hIR.out _ _ hvr.out (by omega)).mono ?_
          rintro e w2 ⟨rfl, b2⟩
          go_wp2_with fail
          go_ret
          exact ⟨ret_str (by rw [hf.out]), b1.trans (b2.mono b1.size)⟩
        · cases hr : falsT r
          · have hneg := Lib.hid (isNegation_four b0 o0 0 l r _ w h2 h3 hv.out hll)
            have hrh := Lib.hid hr
            have hf := Lib.hid (txtB_imp (b := b0) (o := o0) (y := 0) (l := l) (r := r) hr)
            have hIL := Lib.hid (fun vl w => IHL.out vl w 1 h2 hgl)
            have hIR := Lib.hid (fun vr w => IHR.out vr w 0 h3 hgr)
            have sl1 : (txt l 1).size ≤ 4000 := by have := sl 1; omega
            have sr1 : (txt r 0).size ≤ 4000 := by have := sr 0; omega
            generalize txt l 1 = SL at *
            generalize txt r 0 = SR at *
            clear hown sl sr hr
            go_enter Try.func39, Try.ntmps39
            go_wp2_with fail
            refine hlv.out.mono ?_
            rintro e w' ⟨rfl, rfl⟩
            go_wp2_with fail
            refine hneg.out.mono ?_
            rintro e w' ⟨rfl, rfl⟩
            rw [hrh.out]
            go_wp2_with fail
            refine hfi.out.mono ?_
            rintro e w' ⟨⟨vl, rfl, hvl⟩, rfl⟩
            have hvl := Lib.hid hvl
            go_wp2_with fail
            refine (hIL.out _ _ hvl.out (by omega)).mono ?_
            rintro e w1 ⟨rfl, b1⟩
            go_wp2_with fail
            refine (second_any _ _ l r _ (hvn.out.below b1 (Nat.le_refl _)) h2 h3 (by omega)).mono ?_
            rintro e w' ⟨⟨vr, rfl, hvr⟩, rfl⟩
            have hvr := Lib.hid hvr
            go_wp2_with fail
            refine (hIR.out _ _ hvr.out (by omega)).mono ?_
            rintro e w2 ⟨rfl, b2⟩
            go_wp2_with fail
            go_ret
            exact ⟨ret_str (by rw [hf.out]), b1.trans (b2.mono b1.size)⟩
          · cases hl : falsT l
            · have hneg := Lib.hid (isNegation_four b0 o0 0 l r _ w h2 h3 hv.out hll)
              have hrh := Lib.hid hr
              have hlh := Lib.hid hl
              have hf := Lib.hid (txtB_not (b := b0) (o := o0) (y := 0) (l := l) (r := r) hr hl)
              have hIL := Lib.hid (fun vl w => IHL.out vl w 3 h2 hgl)
              have sl1 : (txt l 3).size ≤ 4000 := by have := sl 3; omega
              generalize txt l 3 = SL at *
              clear hown sl sr hr hl
              go_enter Try.func39, Try.ntmps39
              go_wp2_with fail
              refine hlv.out.mono ?_
              rintro e w' ⟨rfl, rfl⟩
              go_wp2_with fail
              refine hneg.out.mono ?_
              rintro e w' ⟨rfl, rfl⟩
              rw [hrh.out]
              go_wp2_with fail
              refine hfi.out.mono ?_
              rintro e w' ⟨⟨vl0, rfl, hvl0⟩, rfl⟩
              have hvl0 := Lib.hid hvl0
              go_wp2_with fail
              refine (isFalsum_any l _ _ h2 hvl0.out).mono ?_
              rintro e w' ⟨rfl, rfl⟩
              rw [hlh.out]
              go_wp2_with fail
              refine hfi.out.mono ?_
              rintro e w' ⟨⟨vl, rfl, hvl⟩, rfl⟩
              have hvl := Lib.hid hvl
              go_wp2_with fail
              refine (hIL.out _ _ hvl.out (by omega)).mono ?_
              rintro e w1 ⟨rfl, b1⟩
              go_wp2_with fail
              go_ret
              exact ⟨ret_str (by rw [hf.out]), b1⟩
            · have hneg := Lib.hid (isNegation_four b0 o0 0 l r _ w h2 h3 hv.out hll)
              have hrh := Lib.hid hr
              have hlh := Lib.hid hl
              have hf := Lib.hid (txtB_true (b := b0) (o := o0) (y := 0) (l := l) (r := r) hr hl)
              clear hown sl sr hr hl
              go_enter Try.func39, Try.ntmps39
              go_wp2_with fail
              refine hlv.out.mono ?_
              rintro e w' ⟨rfl, rfl⟩
              go_wp2_with fail
              refine hneg.out.mono ?_
              rintro e w' ⟨rfl, rfl⟩
              rw [hrh.out]
              go_wp2_with fail
              refine hfi.out.mono ?_
              rintro e w' ⟨⟨vl0, rfl, hvl0⟩, rfl⟩
              have hvl0 := Lib.hid hvl0
              go_wp2_with fail
              refine (isFalsum_any l _ _ h2 hvl0.out).mono ?_
              rintro e w' ⟨rfl, rfl⟩
              rw [hlh.out]
              go_wp2_with fail
              go_ret
              exact ⟨ret_str (by rw [hf.out]), Below.refl _ _⟩
      · have hfi := Lib.hid (first_any _ (x, 0) l .nil w hvn.out h2 (by simp [flat] at hll ⊢; omega))
        have sl := txt_size l 3 h2 hgl
        rcases hx with rfl | rfl
        · have hf := Lib.hid (txtB_box (b := b0) (o := o0) (y := 0) (l := l) (r := .nil))
          have hIL := Lib.hid (fun vl w => IHL.out vl w 3 h2 hgl)
          have sl1 : (txt l 3).size ≤ 4000 := by have := sl; simp [flat] at hll; omega
          generalize txt l 3 = SL at *
          clear hown sl
          go_enter Try.func39, Try.ntmps39
          go_wp2_with fail
          refine hlv.out.mono ?_
          rintro e w' ⟨rfl, rfl⟩
          go_wp2_with fail
          refine hfi.out.mono ?_
          rintro e w' ⟨⟨vl, rfl, hvl⟩, rfl⟩
          have hvl := Lib.hid hvl
          go_wp2_with fail
          refine (hIL.out _ _ hvl.out (by simp [flat] at hll; omega)).mono ?_
          rintro e w1 ⟨rfl, b1⟩
          go_wp2_with fail
          go_ret
          exact ⟨ret_str (by rw [hf.out]), b1⟩
        · have hf := Lib.hid (txtB_dia (b := b0) (o := o0) (y := 0) (l := l) (r := .nil))
          have hIL := Lib.hid (fun vl w => IHL.out vl w 3 h2 hgl)
          have sl1 : (txt l 3).size ≤ 4000 := by have := sl; simp [flat] at hll; omega
          generalize txt l 3 = SL at *
          clear hown sl
          go_enter Try.func39, Try.ntmps39
          go_wp2_with fail
          refine hlv.out.mono ?_
          rintro e w' ⟨rfl, rfl⟩
          go_wp2_with fail
          refine hfi.out.mono ?_
          rintro e w' ⟨⟨vl, rfl, hvl⟩, rfl⟩
          have hvl := Lib.hid hvl
          go_wp2_with fail
          refine (hIL.out _ _ hvl.out (by simp [flat] at hll; omega)).mono ?_
          rintro e w1 ⟨rfl, b1⟩
          go_wp2_with fail
          go_ret
          exact ⟨ret_str (by rw [hf.out]), b1⟩
    by_cases hlev : ownT (.node b0 o0 n l r) < lev
    · have hlv := Lib.hid (levelOf_any _ _ w ht hg h hn)
      have hk := Lib.hid (key w 0 (by have := ownT_bounds (.node b0 o0 n l r); omega) h)
      have hsz := txtB_size _ ht hg
      have hf := Lib.hid (txt_out hlev)
      clear key h ht hg IHL IHR
      generalize (flat (.node b0 o0 n l r)).length = m at *
      generalize hT : (BT.node b0 o0 n l r) = T at *
      generalize txtB T = S at *
      generalize ownT T = own at *
      clear hT
      have hS : S.size ≤ 4000 := by omega
      clear hsz hn
      go_enter Try.func39, Try.ntmps39
      go_wp2_with fail
      refine hlv.out.mono ?_
      rintro e w' ⟨rfl, rfl⟩
      go_wp2_with fail
      refine hk.out.mono ?_
      rintro e w1 ⟨rfl, b1⟩
      go_wp2_with fail
      go_ret
      exact ⟨ret_str hf.out.symm, b1⟩
    · rw [txt_in hlev]
      exact key w lev hlev h

theorem text_any (t : Tr) (v : Value) (w : World) (ht : okT t) (hg : goodT t) (h : Nodes w v (flat t)) (hn : (flat t).length ≤ 1000) :
    Calls Try.prog 28 #[v] w fun e w' => e = .returned (.string (txtB t)) ∧ Below w.heap.size w w' := by
  have hc := Lib.hid (textAt_any t v w 0 ht hg h hn)
  have h0 := Lib.hid (txt_zero t)
  go_enter Try.func28, Try.ntmps28
  go_wp2_with fail
  refine hc.out.mono ?_
  rintro e w1 ⟨rfl, b1⟩
  rw [h0.out]
  go_wp2_with fail
  go_ret
  exact ⟨rfl, b1⟩
end Go.Proofs.Ytkhbimdahjkgoaa
