/- Walks of IsSahlqvist, of the reference: what may stand behind. -/
import Derived.Test.YtadinbjhpbomkaaSahlTwo
namespace Go.Proofs.Ytadinbjhpbomkaa
open Go.RowKit

set_option maxHeartbeats 4000000 in
theorem l10Positive_any (t : Tr) : ∀ (v : Value) (w : World), okT t → smallT t → Nodes w v (flat t) → (flat t).length ≤ 1000000 →
    Calls Try.prog 124 #[v] w fun e w' => e = .returned (.bool (posT t)) ∧ Below w.heap.size w w' := by
  induction t with
  | nil => intro v w h; exact h.elim
  | node b0 o0 n l r ihl ihr =>
    intro v w hok hsm h hn
    obtain ⟨x, y⟩ := n
    obtain ⟨hx6, hsl, hsr⟩ := small_kids hsm
    simp only at hx6
    have hv := Lib.hid h
    obtain ⟨c, b, o, rfl, hc, hcm, hcell⟩ := h.raw (by simp [flat])
    obtain ⟨hc0, hc1⟩ := node_head hcell.out
    simp only at hc0 hc1
    have hp0 : 0 < (flat (.node b0 o0 (x, y) l r)).length := by simp [flat]
    have hfl := Lib.hid (flat_len b0 o0 (x, y) l r)
    have htr := Lib.hid (fun W (hb : Below w.heap.size w W) => l10Truth_any _ _ W (hv.out.below hb (Nat.le_refl _)) hn)
    have hpos := Lib.hid (show posT (.node b0 o0 (x, y) l r) = ((decide (x = 0) || conB x (flat (.node b0 o0 (x, y) l r))) || (decide (x ≠ 4) && (posT l && posT r))) from rfl)
    have hfi := Lib.hid (fun W (hb : Below w.heap.size w W) hl => l02Left_any _ (x, y) l r W (hv.out.below hb (Nat.le_refl _)) hl (by rw [hfl.out] at hn; omega))
    have hse := Lib.hid (fun W (hb : Below w.heap.size w W) hl hr => l02Right_any _ (x, y) l r W (hv.out.below hb (Nat.le_refl _)) hl hr (by rw [hfl.out] at hn; omega))
    have hnl := Lib.hid (show (flat l).length ≤ 1000000 by rw [hfl.out] at hn; omega)
    have hnr := Lib.hid (show (flat r).length ≤ 1000000 by rw [hfl.out] at hn; omega)
    have ihl := Lib.hid (fun v w h1 h2 => ihl v w h1 hsl h2 hnl.out)
    have ihr := Lib.hid (fun v w h1 h2 => ihr v w h1 hsr h2 hnr.out)
    have hokh := Lib.hid hok
    have hcellH := Lib.hid hcell.out
    clear h hcm hcell hok hn hc1 hsm hsl hsr
    have hxs : x = 0 ∨ x = 1 ∨ (x = 2 ∨ x = 3) ∨ x = 4 ∨ (x = 5 ∨ x = 6) := by omega
    clear hx6
    cases hct : decide (flat (.node b0 o0 (x, y) l r) = truthL)
    all_goals have hct := Lib.hid hct
    · rcases hxs with rfl | rfl | hx | rfl | hx
      · generalize (flat (.node b0 o0 (0, y) l r)).length = m at *
        go_enter Try.func124, Try.ntmps124
        go_wp2_with fail
        go_ret
        exact ⟨ret_bool (by rw [hpos.out]; rfl), Below.refl _ _⟩
      · generalize (flat (.node b0 o0 (1, y) l r)).length = m at *
        go_enter Try.func124, Try.ntmps124
        go_wp2_with fail
        refine (htr.out _ (Below.refl _ _)).mono ?_
        rintro e w2 ⟨rfl, b2⟩
        rw [hct.out]
        have hc0 := keep_cell b2 hc0
        go_wp2_with fail
        go_ret
        exact ⟨ret_bool (by rw [hpos.out, conB_one]; rfl), b2⟩
      · have hcn := Lib.hid (show conB x (flat (.node b0 o0 (x, y) l r)) = false by rw [conB_ne (by rcases hx with rfl | rfl <;> decide)]; exact hct.out)
        obtain ⟨okl, okr⟩ : okT l ∧ okT r := by rcases hx with rfl | rfl <;> exact ok_two hokh.out (by decide)
        cases hal : posT l
        all_goals
          have hal := Lib.hid hal
          rcases hx with rfl | rfl
          all_goals
            generalize (flat (.node b0 o0 (_, y) l r)).length = m at *
            go_enter Try.func124, Try.ntmps124
            go_wp2_with fail
            refine (htr.out _ (Below.refl _ _)).mono ?_
            rintro e w2 ⟨rfl, b2⟩
            rw [hct.out]
            have hc0 := keep_cell b2 hc0
            go_wp2_with fail
            refine (hfi.out _ b2 okl).mono ?_
            rintro e w3 ⟨⟨v3, rfl, h3⟩, rfl⟩
            have h3 := Lib.hid h3
            go_wp2_with fail
            refine (ihl.out _ _ okl h3.out).mono ?_
            rintro e w4 ⟨rfl, b4⟩
            rw [hal.out]
            have B4 := keep_step b4 b2
            go_wp2_with fail
        iterate 2
          · go_ret
            exact ⟨ret_bool (by rw [hpos.out, hcn.out, hal.out]; rfl), B4⟩
        all_goals
          refine (hse.out _ B4 okl okr).mono ?_
          rintro e w5 ⟨⟨v5, rfl, h5⟩, rfl⟩
          have h5 := Lib.hid h5
          go_wp2_with fail
          refine (ihr.out _ _ okr h5.out).mono ?_
          rintro e w6 ⟨rfl, b6⟩
          go_wp2_with fail
          go_ret
          exact ⟨ret_bool (by rw [hpos.out, hcn.out, hal.out]; simp), keep_step b6 B4⟩
      · have hcn := Lib.hid (show conB 4 (flat (.node b0 o0 (4, y) l r)) = false by rw [conB_ne (by decide)]; exact hct.out)
        generalize (flat (.node b0 o0 (4, y) l r)).length = m at *
        go_enter Try.func124, Try.ntmps124
        go_wp2_with fail
        refine (htr.out _ (Below.refl _ _)).mono ?_
        rintro e w2 ⟨rfl, b2⟩
        rw [hct.out]
        have hc0 := keep_cell b2 hc0
        go_wp2_with fail
        go_ret
        exact ⟨ret_bool (by rw [hpos.out, hcn.out]; rfl), b2⟩
      · have hcn := Lib.hid (show conB x (flat (.node b0 o0 (x, y) l r)) = false by rw [conB_ne (by rcases hx with rfl | rfl <;> decide)]; exact hct.out)
        obtain ⟨okl, rfl⟩ : okT l ∧ r = .nil := by rcases hx with rfl | rfl <;> exact ok_one hokh.out (by decide)
        have hpl := flat_pos l okl
        have e1 : (flat (.node b0 o0 (x, y) l .nil)).length = (flat l).length + 1 := by rw [hfl.out]; simp [flat]; omega
        have htail := Lib.hid (node_tail (c := c - 1) (show ∀ j u, (cellsN ((x, y) :: flat l))[j]? = some u → w.cell? ⟨b, o + j, none⟩ = some u by simpa [flat] using hcellH.out) (by omega) (by unfold maxLen; have := hnl.out; omega))
        have hc1c : 1 < c := by omega
        have hm1 : 1 < (flat (.node b0 o0 (x, y) l .nil)).length := by omega
        rcases hx with rfl | rfl
        all_goals
          generalize hmg : (flat (.node b0 o0 (_, y) l .nil)).length = m at *
          obtain ⟨m', rfl⟩ : ∃ m', m = m' + 1 := ⟨m - 1, by omega⟩
          obtain rfl : m' = (flat l).length := by omega
          clear hmg e1
          go_enter Try.func124, Try.ntmps124
          go_wp2_with fail
          refine (htr.out _ (Below.refl _ _)).mono ?_
          rintro e w2 ⟨rfl, b2⟩
          rw [hct.out]
          have hc0 := keep_cell b2 hc0
          go_wp2_with fail
          refine (ihl.out _ _ okl ?_).mono ?_
          · exact htail.out.below b2 (Nat.le_refl _)
          rintro e w4 ⟨rfl, b4⟩
          have B4 := keep_step b4 b2
          go_wp2_with fail
          go_ret
          exact ⟨ret_bool (by rw [hpos.out, hcn.out]; simp [posT]), B4⟩
    · have hcn := Lib.hid (show posT (.node b0 o0 (x, y) l r) = true by rw [hpos.out, conB_true hct.out]; simp)
      by_cases hx0 : x = 0
      · subst hx0
        generalize (flat (.node b0 o0 (0, y) l r)).length = m at *
        go_enter Try.func124, Try.ntmps124
        go_wp2_with fail
        go_ret
        exact ⟨ret_bool hcn.out.symm, Below.refl _ _⟩
      · have hxf : (x == 0) = false := by rw [beq_eq_false_iff_ne]; exact hx0
        clear hxs hx0
        generalize (flat (.node b0 o0 (x, y) l r)).length = m at *
        go_enter Try.func124, Try.ntmps124
        go_wp2_with fail
        refine (htr.out _ (Below.refl _ _)).mono ?_
        rintro e w2 ⟨rfl, b2⟩
        rw [hct.out]
        go_wp2_with fail
        go_ret
        exact ⟨ret_bool hcn.out.symm, b2⟩

set_option maxHeartbeats 1000000 in
theorem l10Sahlqvist_any (t : Tr) (v : Value) (w : World) (hok : okT t) (hsm : smallT t) (h : Nodes w v (flat t)) (hn : (flat t).length ≤ 1000000) :
    Calls Try.prog 82 #[v] w fun e w' => e = .returned (.bool (sahT t)) ∧ Below w.heap.size w w' := by
  cases t with
  | nil => exact hok.elim
  | node b0 o0 n l r =>
    obtain ⟨x, y⟩ := n
    obtain ⟨_, hsl, hsr⟩ := small_kids hsm
    have hv := Lib.hid h
    obtain ⟨c, b, o, rfl, hc, hcm, hcell⟩ := h.raw (by simp [flat])
    obtain ⟨hc0, hc1⟩ := node_head hcell.out
    simp only at hc0 hc1
    have hp0 : 0 < (flat (.node b0 o0 (x, y) l r)).length := by simp [flat]
    have hfl := Lib.hid (flat_len b0 o0 (x, y) l r)
    have hfi := Lib.hid (fun W (hb : Below w.heap.size w W) hl => l02Left_any _ (x, y) l r W (hv.out.below hb (Nat.le_refl _)) hl (by rw [hfl.out] at hn; omega))
    have hse := Lib.hid (fun W (hb : Below w.heap.size w W) hl hr => l02Right_any _ (x, y) l r W (hv.out.below hb (Nat.le_refl _)) hl hr (by rw [hfl.out] at hn; omega))
    have hnl := Lib.hid (show (flat l).length ≤ 1000000 by rw [hfl.out] at hn; omega)
    have hnr := Lib.hid (show (flat r).length ≤ 1000000 by rw [hfl.out] at hn; omega)
    have hsah := Lib.hid (show sahT (.node b0 o0 (x, y) l r) = (decide (x = 4) && (antT l && posT r)) from rfl)
    have hokh := Lib.hid hok
    have hsrh := Lib.hid hsr
    clear h hcm hcell hok hn hc1 hsm hsl hsr
    generalize (flat (.node b0 o0 (x, y) l r)).length = m at *
    by_cases h4 : x = 4
    · subst h4
      obtain ⟨okl, okr⟩ := ok_two hokh.out (by decide)
      cases hal : antT l
      all_goals
        have hal := Lib.hid hal
        go_enter Try.func82, Try.ntmps82
        go_wp2_with fail
        refine (hfi.out _ (Below.refl _ _) okl).mono ?_
        rintro e w3 ⟨⟨v3, rfl, h3⟩, rfl⟩
        have h3 := Lib.hid h3
        go_wp2_with fail
        refine (l10Front_any _ _ _ okl h3.out hnl.out).mono ?_
        rintro e w4 ⟨rfl, b4⟩
        rw [hal.out]
        go_wp2_with fail
      · go_ret
        exact ⟨ret_bool (by rw [hsah.out, hal.out]; rfl), b4⟩
      · refine (hse.out _ b4 okl okr).mono ?_
        rintro e w5 ⟨⟨v5, rfl, h5⟩, rfl⟩
        have h5 := Lib.hid h5
        go_wp2_with fail
        refine (l10Positive_any _ _ _ okr hsrh.out h5.out hnr.out).mono ?_
        rintro e w6 ⟨rfl, b6⟩
        go_wp2_with fail
        go_ret
        exact ⟨ret_bool (by rw [hsah.out, hal.out]; simp), keep_step b6 b4⟩
    · have h4f : (x == 4) = false := by rw [beq_eq_false_iff_ne]; exact h4
      have h4h := Lib.hid h4
      clear h4
      go_enter Try.func82, Try.ntmps82
      go_wp2_with fail
      go_ret
      exact ⟨ret_bool (by rw [hsah.out]; simp [h4h.out]), Below.refl _ _⟩

theorem specIsSahlqvist_any (v : Value) (ns : List Nd) (w : World) (h : Nodes w v ns) :
    Calls Try.prog 41 #[v] w fun e w' => e = .returned (.tuple #[.bool (sahR ns), .int .i64 (sahCode ns)]) ∧ Below w.heap.size w w' := by
  have hv := Lib.hid h
  clear h
  have hcode := Lib.hid (l02Is_any v ns w hv.out)
  cases hf : formB ns
  · have hr := Lib.hid (show sahR ns = false ∧ sahCode ns = 1 by simp [sahR, sahCode, hf])
    have hfh := Lib.hid hf
    clear hf
    go_enter Try.func41, Try.ntmps41
    go_wp2_with fail
    refine hcode.out.mono ?_
    rintro e w1 ⟨rfl, rfl⟩
    rw [hfh.out]
    go_wp2_with fail
    go_ret2
    exact ⟨by rw [hr.out.1, hr.out.2]; rfl, Below.refl _ _⟩
  · have hr := Lib.hid (show sahR ns = sahT (treeOf ns) ∧ sahCode ns = 0 by simp [sahR, sahCode, hf])
    obtain ⟨hok, hfl⟩ := treeOf_spec hf
    have hl : ns.length ≤ 40 := by simp only [formB, Bool.and_eq_true, decide_eq_true_eq] at hf; omega
    have hg := Lib.hid (l10Sahlqvist_any (treeOf ns) v w hok (small_form hf) (by rw [hfl]; exact hv.out) (by rw [hfl]; omega))
    have hfh := Lib.hid hf
    clear hf hfl hok
    go_enter Try.func41, Try.ntmps41
    go_wp2_with fail
    refine hcode.out.mono ?_
    rintro e w1 ⟨rfl, rfl⟩
    rw [hfh.out]
    go_wp2_with fail
    refine hg.out.mono ?_
    rintro e w2 ⟨rfl, hb2⟩
    go_wp2_with fail
    go_ret2
    exact ⟨by rw [hr.out.1, hr.out.2]; rfl, hb2⟩
end Go.Proofs.Ytadinbjhpbomkaa
