/- Walks of IsSahlqvist, of the reference. -/
import Derived.Test.YtadinbjhpbomkaaSahl
namespace Go.Proofs.Ytadinbjhpbomkaa
open Go.RowKit

theorem conB_one (ns : List Nd) : conB 1 ns = true := by simp [conB]
theorem conB_ne {x : Int} (h : x ≠ 1) (ns : List Nd) : conB x ns = decide (ns = truthL) := by
  unfold conB
  rw [show (x == 1) = false by rw [beq_eq_false_iff_ne]; exact h, Bool.false_or]
theorem conB_true {x : Int} {ns : List Nd} (h : decide (ns = truthL) = true) : conB x ns = true := by simp [conB, h]

def smallT (t : Tr) : Prop := ∀ n ∈ flat t, 0 ≤ n.1 ∧ n.1 ≤ 6
theorem small_kids {b o : Nat} {n : Nd} {l r : Tr} (h : smallT (.node b o n l r)) : (0 ≤ n.1 ∧ n.1 ≤ 6) ∧ smallT l ∧ smallT r := by
  refine ⟨h n (by simp [flat]), fun m hm => h m (by simp [flat, hm]), fun m hm => h m (by simp [flat, hm])⟩
theorem small_form {ns : List Nd} (h : formB ns = true) : smallT (treeOf ns) := by
  obtain ⟨hok, hfl⟩ := treeOf_spec h
  intro n hn
  rw [hfl] at hn
  have h2 := List.all_eq_true.1 (show ns.all nodeB = true by simp only [formB, Bool.and_eq_true] at h; exact h.1.2) n hn
  unfold nodeB at h2
  split at h2
  · omega
  · simp at h2; omega

set_option maxHeartbeats 1000000 in
theorem l10Boxed_any (t : Tr) (v : Value) (w : World) (hok : okT t) (h : Nodes w v (flat t)) (hn : (flat t).length ≤ 1000000) :
    Calls Try.prog 142 #[v] w fun e w' => ((boxT t = true ∧ ∃ k : Nat, e = .returned (.int .i64 k)) ∨ (boxT t = false ∧ e = .returned (.int .i64 (-1)))) ∧ w = w' := by
  have hp := flat_pos t hok
  have hst := Lib.hid (show ∃ t' : Tr, okT t' ∧ (flat t).drop 0 = flat t' ∧ boxT t' = boxT t from ⟨t, hok, rfl, rfl⟩)
  obtain ⟨hm, a, c, b, o, rfl, hc, h0, hcell⟩ := h.opened
  clear h hm hok
  obtain rfl : a = some ⟨b, o, none⟩ := by rcases h0 with h0 | ⟨_, h0⟩; · omega
                                           exact h0
  clear h0
  have hBT := Lib.hid (rfl : boxT t = boxT t)
  generalize boxT t = B at *
  generalize flat t = ns at *
  go_enter Try.func142, Try.ntmps142
  go_wp2_with fail
  go_loop [3] (fun i => ∃ k : Nat, k < ns.length ∧ i = .int .i64 k ∧ Hid (∃ t' : Tr, okT t' ∧ ns.drop k = flat t' ∧ boxT t' = B)) (fun i => ns.length - (intOf i).toNat)
  case atStart => exact ⟨0, hp, rfl, hst.out⟩
  case round =>
    clear hst
    obtain ⟨k, hlt, rfl, hrelk⟩ := hrel
    obtain ⟨t', hok', hd, hbx⟩ := hrelk.out
    obtain ⟨x', y', hx', hcx, hcy⟩ := hcell.out k hlt
    cases t' with
    | nil => exact hok'.elim
    | node b0 o0 n l r =>
      obtain ⟨x, y⟩ := n
      have hd1 : ns.drop (k + 1) = flat l ++ flat r := by
        rw [← List.drop_drop, hd]; simp [flat]
      obtain ⟨rfl, rfl⟩ : x' = x ∧ y' = y := by
        have h1 : (ns.drop k)[0]? = some (x', y') := by rw [List.getElem?_drop]; simpa using hx'
        rw [hd] at h1
        simpa [flat, eq_comm] using h1
      clear hrelk hd hx'
      by_cases hx : x' = 5
      · subst hx
        obtain ⟨hl, rfl⟩ := ok_one hok' (by decide)
        have hlt2 : k + 1 < ns.length := by
          have h1 := congrArg List.length hd1
          have h2 := flat_pos l hl
          simp [flat] at h1
          omega
        have hnx := Lib.hid (show ∃ t' : Tr, okT t' ∧ ns.drop (k + 1) = flat t' ∧ boxT t' = B from ⟨l, hl, by rw [hd1]; simp [flat], by rw [← hbx]; simp [boxT]⟩)
        clear hd1 hok' hbx hl
        go_wp2_with fail
        go_round
        case rel => exact ⟨k + 1, hlt2, by go_num, hnx.out⟩
        case measure => simp [intOf]; omega
      · have hxf : (x' == 5) = false := by rw [beq_eq_false_iff_ne]; exact hx
        by_cases hx0 : x' = 0
        · subst hx0
          have hB := Lib.hid (show B = true by rw [← hbx]; simp [boxT])
          clear hd1 hok' hbx hx hxf
          go_wp2_with fail
          go_ret
          exact ⟨.inl ⟨hB.out, k, rfl⟩, rfl⟩
        · have hx0f : (x' == 0) = false := by rw [beq_eq_false_iff_ne]; exact hx0
          have hB := Lib.hid (show B = false by rw [← hbx]; simp [boxT, hx, hx0])
          clear hd1 hok' hbx hx hx0
          go_wp2_with fail
          go_ret
          exact ⟨.inr ⟨hB.out, rfl⟩, rfl⟩

theorem l10Boxed_yes {t : Tr} {v : Value} {w : World} (hok : okT t) (h : Nodes w v (flat t)) (hn : (flat t).length ≤ 1000000) (hb : boxT t = true) :
    Calls Try.prog 142 #[v] w fun e w' => (∃ k : Nat, e = .returned (.int .i64 k)) ∧ w = w' :=
  (l10Boxed_any t v w hok h hn).mono fun e w' ⟨h1, h2⟩ => ⟨h1.elim (fun h => h.2) (fun h => by rw [hb] at h; cases h.1), h2⟩
theorem l10Boxed_no {t : Tr} {v : Value} {w : World} (hok : okT t) (h : Nodes w v (flat t)) (hn : (flat t).length ≤ 1000000) (hb : boxT t = false) :
    Calls Try.prog 142 #[v] w fun e w' => e = .returned (.int .i64 (-1)) ∧ w = w' :=
  (l10Boxed_any t v w hok h hn).mono fun e w' ⟨h1, h2⟩ => ⟨h1.elim (fun h => by rw [hb] at h; cases h.1) (fun h => h.2), h2⟩

set_option maxHeartbeats 2000000 in
theorem l10Front_any (t : Tr) : ∀ (v : Value) (w : World), okT t → Nodes w v (flat t) → (flat t).length ≤ 1000000 →
    Calls Try.prog 123 #[v] w fun e w' => e = .returned (.bool (antT t)) ∧ Below w.heap.size w w' := by
  induction t with
  | nil => intro v w h; exact h.elim
  | node b0 o0 n l r ihl ihr =>
    intro v w hok h hn
    obtain ⟨x, y⟩ := n
    have hv := Lib.hid h
    obtain ⟨c, b, o, rfl, hc, hcm, hcell⟩ := h.raw (by simp [flat])
    obtain ⟨hc0, hc1⟩ := node_head hcell.out
    simp only at hc0 hc1
    have hp0 : 0 < (flat (.node b0 o0 (x, y) l r)).length := by simp [flat]
    have hfl := Lib.hid (flat_len b0 o0 (x, y) l r)
    have hyes := Lib.hid (fun hb => l10Boxed_yes hok hv.out hn hb)
    have hno := Lib.hid (fun hb => l10Boxed_no hok hv.out hn hb)
    have htr := Lib.hid (fun W (hb : Below w.heap.size w W) => l10Truth_any _ _ W (hv.out.below hb (Nat.le_refl _)) hn)
    have hant := Lib.hid (show antT (.node b0 o0 (x, y) l r) = (boxT (.node b0 o0 (x, y) l r) || (conB x (flat (.node b0 o0 (x, y) l r)) || (if x = 2 then antT l && antT r else if x = 6 then antT l else false))) from rfl)
    have hfi := Lib.hid (fun W (hb : Below w.heap.size w W) hl => l02Left_any _ (x, y) l r W (hv.out.below hb (Nat.le_refl _)) hl (by rw [hfl.out] at hn; omega))
    have hse := Lib.hid (fun W (hb : Below w.heap.size w W) hl hr => l02Right_any _ (x, y) l r W (hv.out.below hb (Nat.le_refl _)) hl hr (by rw [hfl.out] at hn; omega))
    have hnl := Lib.hid (show (flat l).length ≤ 1000000 by rw [hfl.out] at hn; omega)
    have hnr := Lib.hid (show (flat r).length ≤ 1000000 by rw [hfl.out] at hn; omega)
    have ihl := Lib.hid ihl
    have ihr := Lib.hid ihr
    have hokh := Lib.hid hok
    have hcellH := Lib.hid hcell.out
    have hnh := Lib.hid hn
    have hcH := Lib.hid hc
    clear h hcm hcell hok hn hc1
    cases hbt : boxT (.node b0 o0 (x, y) l r)
    · have hbt := Lib.hid hbt
      have hbx := Lib.hid (hno.out hbt.out)
      cases hct : decide (flat (.node b0 o0 (x, y) l r) = truthL)
      · have hct := Lib.hid hct
        by_cases h1 : x = 1
        · subst h1
          generalize (flat (.node b0 o0 (1, y) l r)).length = m at *
          go_enter Try.func123, Try.ntmps123
          go_wp2_with fail
          refine hbx.out.mono ?_
          rintro e w1 ⟨rfl, rfl⟩
          go_wp2_with fail
          refine (htr.out _ (Below.refl _ _)).mono ?_
          rintro e w2 ⟨rfl, b2⟩
          rw [hct.out]
          have hc0 := keep_cell b2 hc0
          go_wp2_with fail
          go_ret
          exact ⟨ret_bool (by rw [hant.out, conB_one]; simp), b2⟩
        · have h1f : (x == 1) = false := by rw [beq_eq_false_iff_ne]; exact h1
          have hcn := Lib.hid (show conB x (flat (.node b0 o0 (x, y) l r)) = false by rw [conB_ne h1]; exact hct.out)
          clear h1
          by_cases h2 : x = 2
          · subst h2
            clear h1f
            obtain ⟨okl, okr⟩ := ok_two hokh.out (by decide)
            generalize (flat (.node b0 o0 (2, y) l r)).length = m at *
            cases hal : antT l
            all_goals
              have hal := Lib.hid hal
              go_enter Try.func123, Try.ntmps123
              go_wp2_with fail
              refine hbx.out.mono ?_
              rintro e w1 ⟨rfl, rfl⟩
              go_wp2_with fail
              refine (htr.out _ (Below.refl _ _)).mono ?_
              rintro e w2 ⟨rfl, b2⟩
              rw [hct.out]
              have hc0 := keep_cell b2 hc0
              go_wp2_with fail
              refine (hfi.out _ b2 okl).mono ?_
              rintro e w3 ⟨⟨v3, rfl, h3⟩, rfl⟩
              have h3 := Lib.hid h3
              go_wp2_with fail
              refine (ihl.out _ _ okl h3.out hnl.out).mono ?_
              rintro e w4 ⟨rfl, b4⟩
              rw [hal.out]
              have B4 := keep_step b4 b2
              go_wp2_with fail
            · go_ret
              exact ⟨ret_bool (by rw [hant.out, hbt.out, hcn.out, hal.out]; rfl), B4⟩
            · refine (hse.out _ B4 okl okr).mono ?_
              rintro e w5 ⟨⟨v5, rfl, h5⟩, rfl⟩
              have h5 := Lib.hid h5
              go_wp2_with fail
              refine (ihr.out _ _ okr h5.out hnr.out).mono ?_
              rintro e w6 ⟨rfl, b6⟩
              go_wp2_with fail
              go_ret
              exact ⟨ret_bool (by rw [hant.out, hbt.out, hcn.out, hal.out]; simp), keep_step b6 B4⟩
          · have h2f : (x == 2) = false := by rw [beq_eq_false_iff_ne]; exact h2
            have h2h := Lib.hid h2
            clear h2
            by_cases h6 : x = 6
            · subst h6
              obtain ⟨okl, rfl⟩ := ok_one hokh.out (by decide)
              have hpl := flat_pos l okl
              have e1 : (flat (.node b0 o0 (6, y) l .nil)).length = (flat l).length + 1 := by rw [hfl.out]; simp [flat]; omega
              have htail := Lib.hid (node_tail (c := c - 1) (show ∀ j u, (cellsN ((6, y) :: flat l))[j]? = some u → w.cell? ⟨b, o + j, none⟩ = some u by simpa [flat] using hcellH.out) (by omega) (by unfold maxLen; have := hnl.out; omega))
              have hc1c : 1 < c := by omega
              have hm1 : 1 < (flat (.node b0 o0 (6, y) l .nil)).length := by omega
              clear h2f h1f
              generalize hmg : (flat (.node b0 o0 (6, y) l .nil)).length = m at *
              obtain ⟨m', rfl⟩ : ∃ m', m = m' + 1 := ⟨m - 1, by omega⟩
              obtain rfl : m' = (flat l).length := by omega
              clear hmg e1
              go_enter Try.func123, Try.ntmps123
              go_wp2_with fail
              refine hbx.out.mono ?_
              rintro e w1 ⟨rfl, rfl⟩
              go_wp2_with fail
              refine (htr.out _ (Below.refl _ _)).mono ?_
              rintro e w2 ⟨rfl, b2⟩
              rw [hct.out]
              have hc0 := keep_cell b2 hc0
              go_wp2_with fail
              refine (ihl.out _ _ okl ?_ hnl.out).mono ?_
              · exact htail.out.below b2 (Nat.le_refl _)
              rintro e w4 ⟨rfl, b4⟩
              have B4 := keep_step b4 b2
              go_wp2_with fail
              go_ret
              exact ⟨ret_bool (by rw [hant.out, hbt.out, hcn.out]; simp), B4⟩
            · have h6f : (x == 6) = false := by rw [beq_eq_false_iff_ne]; exact h6
              have h6h := Lib.hid h6
              clear h6
              generalize (flat (.node b0 o0 (x, y) l r)).length = m at *
              go_enter Try.func123, Try.ntmps123
              go_wp2_with fail
              refine hbx.out.mono ?_
              rintro e w1 ⟨rfl, rfl⟩
              go_wp2_with fail
              refine (htr.out _ (Below.refl _ _)).mono ?_
              rintro e w2 ⟨rfl, b2⟩
              rw [hct.out]
              have hc0 := keep_cell b2 hc0
              go_wp2_with fail
              go_ret
              exact ⟨ret_bool (by rw [hant.out, hbt.out, hcn.out, if_neg h2h.out, if_neg h6h.out]; rfl), b2⟩
      · have hct := Lib.hid hct
        generalize (flat (.node b0 o0 (x, y) l r)).length = m at *
        go_enter Try.func123, Try.ntmps123
        go_wp2_with fail
        refine hbx.out.mono ?_
        rintro e w1 ⟨rfl, rfl⟩
        go_wp2_with fail
        refine (htr.out _ (Below.refl _ _)).mono ?_
        rintro e w2 ⟨rfl, b2⟩
        rw [hct.out]
        go_wp2_with fail
        go_ret
        exact ⟨ret_bool (by rw [hant.out, conB_true hct.out]; simp), b2⟩
    · have hbt := Lib.hid hbt
      have hbx := Lib.hid (hyes.out hbt.out)
      generalize (flat (.node b0 o0 (x, y) l r)).length = m at *
      go_enter Try.func123, Try.ntmps123
      go_wp2_with fail
      refine hbx.out.mono ?_
      rintro e w1 ⟨⟨k, rfl⟩, rfl⟩
      have hk0 : (0 : Int) ≤ (k : Int) := by omega
      go_wp2_with fail
      go_ret
      exact ⟨ret_bool (by rw [hant.out, hbt.out]; rfl), Below.refl _ _⟩
end Go.Proofs.Ytadinbjhpbomkaa
