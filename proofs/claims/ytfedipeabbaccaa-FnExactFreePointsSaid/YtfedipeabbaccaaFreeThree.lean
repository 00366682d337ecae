/- FreePoints: the program's recursion. -/
import Derived.Test.YtfedipeabbaccaaFreeTwo
namespace Go.Proofs.Ytfedipeabbaccaa
open Go.RowKit Go.Deep

theorem wrap_small {p : Int} (h1 : 1 ≤ p) (h2 : p ≤ 512) : IntKind.i64.wrap p = p := by rw [IntKind.wrap_i64]; omega

set_option maxHeartbeats 2000000 in
set_option maxRecDepth 100000 in
theorem freePoints_any (t : PTr) : ∀ (v : Value) (w : World), okP t → (flatP t).all ptB = true → Points w v (flatP t) → (flatP t).length ≤ 900 →
    Calls Try.prog 46 #[v] w fun e w' => e = .returned (.int .i64 (frI t)) ∧ Below w.heap.size w w' := by
  induction t with
  | nil => intro v w h; exact h.elim
  | node b0 o0 n l r ihl ihr =>
    intro v w ht hall h hn
    have IHL := Lib.hid ihl
    have IHR := Lib.hid ihr
    clear ihl ihr
    have hv := Lib.hid h
    obtain ⟨x, y, z⟩ := n
    have hlen : (flatP (.node b0 o0 (x, y, z) l r)).length = 1 + (flatP l).length + (flatP r).length := by simp [flatP]; omega
    obtain ⟨c, b, o, rfl, hc, hcm, hcell⟩ := h.raw (by omega)
    obtain ⟨hc0, hc1, hc2⟩ := point_head hcell.out
    simp only [flatP, List.all_cons, List.all_append, Bool.and_eq_true] at hall
    obtain ⟨hb0, hal, har⟩ := hall
    have hbs := hb0
    rw [ptB_spec, Bool.and_eq_true] at hbs
    have hin := hbs.1
    simp only at hin
    have hpos : 0 < (flatP (.node b0 o0 (x, y, z) l r)).length := by omega
    have hbox0 : (w.alloc (.cells #[.int .i64 x, .int .i64 y, .int .i64 z] 59)).cell? ⟨w.heap.size, 0, none⟩ = some (.int .i64 x) := by rw [World.cell?_alloc_at _ _ _ _ rfl]; rfl
    have hbox1 : (w.alloc (.cells #[.int .i64 x, .int .i64 y, .int .i64 z] 59)).cell? ⟨w.heap.size, 1, none⟩ = some (.int .i64 y) := by rw [World.cell?_alloc_at _ _ _ _ rfl]; rfl
    have hBA := Lib.hid ((Below.refl w.heap.size w).alloc (Nat.le_refl _) (.cells #[.int .i64 x, .int .i64 y, .int .i64 z] 59))
    rcases ht with ⟨h1, rfl, rfl⟩ | ⟨h1, h2, rfl⟩ | ⟨h1, h2, h3⟩
    · simp only at h1
      rcases leaf_kinds hin h1 with h4 | rfl | rfl
      · have hf := Lib.hid (frI_sees (b := b0) (o := o0) (y := y) (z := z) (l := .nil) (r := .nil) h4)
        rw [ptB_sees h4, Bool.and_eq_true] at hb0
        obtain ⟨y0, y1, y2, y3⟩ := pow_fact hb0.1
        obtain ⟨z0, z1, z2, z3⟩ := pow_fact hb0.2
        have hw1 := wrap_small y2 y3
        have hw2 := wrap_small z2 z3
        clear hcell hbs hin hb0 hbox0 hbox1 hn hcm hc hlen h1
        generalize (flatP (.node b0 o0 (x, y, z) .nil .nil)).length = m at *
        rcases h4 with rfl | rfl
        all_goals
          go_enter Try.func46, Try.ntmps46
          go_wp2_with fail
          go_quiet (fail)
          go_wp2_with fail
          go_ret
          exact ⟨ret_int hf.out.symm, below_drewN hBA.out _⟩
      · have hf := Lib.hid (frI_val (b := b0) (o := o0) (y := y) (z := z) (l := .nil) (r := .nil))
        rw [ptB_val, Bool.and_eq_true] at hb0
        obtain ⟨z0, z1, z2, z3⟩ := pow_fact hb0.2
        clear hcell hbs hin hb0 hbox0 hbox1 hn hcm hc hlen h1
        generalize (flatP (.node b0 o0 (2, y, z) .nil .nil)).length = m at *
        go_enter Try.func46, Try.ntmps46
        go_wp2_with fail
        go_ret
        exact ⟨ret_int hf.out.symm, hBA.out⟩
      · have hf := Lib.hid (frI_none (b := b0) (o := o0) (y := y) (z := z) (l := .nil) (r := .nil) h1 (by omega))
        have hfl : flatP (.node b0 o0 (3, y, z) .nil .nil) = [(3, y, z)] := rfl
        rw [hfl] at hv hpos ⊢
        have hbl := Lib.hid (fun W (hW : Below w.heap.size w W) => below_leaf _ (3, y, z) W (hv.out.below hW (Nat.le_refl _)) h1)
        clear hcell hbs hin hb0 hbox1 hn hcm hc hlen h1 hfl hv
        generalize [((3 : Int), y, z)].length = m at *
        go_enter Try.func46, Try.ntmps46
        go_wp2_with fail
        refine (hbl.out _ hBA.out).mono ?_
        rintro e w' ⟨rfl, rfl⟩
        go_wp2_with fail
        refine wp_loop_rounds 1 ?_
        rw [rounds_succ]
        go_wp2_with (go_at_call 76; refine (pointParts_any _ _).mono ?_; rintro e w' ⟨rfl, rfl⟩)
        go_ret
        exact ⟨ret_int hf.out.symm, hBA.out⟩
    · simp only at h1
      have hf := Lib.hid (frI_un (b := b0) (o := o0) (y := y) (z := z) (l := l) (r := .nil) h1)
      have h4 := arP_one_iff h1
      rw [ptB_quant h4, Bool.and_eq_true] at hb0
      obtain ⟨y0, y1, y2, y3⟩ := pow_fact hb0.1
      have hw1 := wrap_small y2 y3
      have hfb := frI_bounds l hal
      have hor := or_zero hfb.1 hfb.2
      have hfl : flatP (.node b0 o0 (x, y, z) l .nil) = (x, y, z) :: flatP l := by simp [flatP]
      rw [hfl] at hv hpos ⊢
      have hll : (flatP l).length ≤ 900 := by omega
      have hbl := Lib.hid (fun W (hW : Below w.heap.size w W) => below_un _ (x, y, z) l W (hv.out.below hW (Nat.le_refl _)) h1 h2 (by omega))
      have hrl := Lib.hid (fun v' W hP => IHL.out v' W h2 hal hP hll)
      have hpp := Lib.hid (fun W => show Calls Try.prog 76 #[.int .i64 x] W fun e w' => e = .returned (.int .i64 1) ∧ W = w' from by
        have h9 := pointParts_any x W
        rw [h1] at h9
        exact h9)
      have hx0 : ¬ (x = 0 ∨ x = 1 ∨ x = 2) := by omega
      have e0 : (x == 0) = false := by rw [beq_eq_false_iff_ne]; omega
      have e1 : (x == 1) = false := by rw [beq_eq_false_iff_ne]; omega
      have e2 : (x == 2) = false := by rw [beq_eq_false_iff_ne]; omega
      clear hcell hbs hin hb0 hn hcm hlen h1 hv hal har hfl hll hc h4 hfb hx0
      generalize ((x, y, z) :: flatP l).length = m at *
      generalize frI l = F at *
      go_enter Try.func46, Try.ntmps46
      go_wp2_with fail
      refine (hbl.out _ hBA.out).mono ?_
      rintro e w1 ⟨vl, rfl, hcl, hpl, b1, s1⟩
      obtain ⟨a1, c1, rfl⟩ := hpl.shape
      replace hcl : w1.cell? ⟨w.heap.size + 1, 0, none⟩ = some (.slice a1 (flatP l).length c1) := by simpa using hcl
      have hpl := Lib.hid hpl
      generalize (flatP l).length = k at *
      have B1 := keep_step b1 hBA.out
      have hbox0 := keep_cell b1 hbox0
      have hbox1 := keep_cell b1 hbox1
      go_wp2_with fail
      refine wp_loop_rounds 2 ?_
      rw [rounds_succ]
      go_wp2_with fail
      refine (hrl.out _ _ hpl.out).mono ?_
      rintro e w2 ⟨rfl, b2⟩
      have B2 := keep_step b2 B1
      have hbox0 := keep_cell b2 hbox0
      have hbox1 := keep_cell b2 hbox1
      go_wp2_with fail
      rw [rounds_succ]
      go_wp2_with fail
      refine (hpp.out _).mono ?_
      rintro e w' ⟨rfl, rfl⟩
      go_wp2_with fail
      go_ret
      exact ⟨ret_int hf.out.symm, B2⟩
    · simp only at h1
      have hf := Lib.hid (frI_bin (b := b0) (o := o0) (y := y) (z := z) (l := l) (r := r) h1)
      have h4 := arP_two_iff h1
      have hfb := frI_bounds l hal
      have hor := or_zero hfb.1 hfb.2
      have hfl : flatP (.node b0 o0 (x, y, z) l r) = (x, y, z) :: (flatP l ++ flatP r) := rfl
      rw [hfl] at hv hpos ⊢
      have hll : (flatP l).length + (flatP r).length ≤ 900 := by omega
      have hbl := Lib.hid (fun W (hW : Below w.heap.size w W) => below_bin _ (x, y, z) l r W (hv.out.below hW (Nat.le_refl _)) h1 h2 h3 (by omega))
      have hrl := Lib.hid (fun v' W hP => IHL.out v' W h2 hal hP (by omega))
      have hrr := Lib.hid (fun v' W hP => IHR.out v' W h3 har hP (by omega))
      have hpp := Lib.hid (fun W => show Calls Try.prog 76 #[.int .i64 x] W fun e w' => e = .returned (.int .i64 2) ∧ W = w' from by
        have h9 := pointParts_any x W
        rw [h1] at h9
        exact h9)
      have e0 : (x == 0) = false := by rw [beq_eq_false_iff_ne]; omega
      have e1 : (x == 1) = false := by rw [beq_eq_false_iff_ne]; omega
      have e2 : (x == 2) = false := by rw [beq_eq_false_iff_ne]; omega
      clear hcell hbs hin hb0 hn hcm hlen h1 hv hal har hfl hll hc h4 hfb
      generalize ((x, y, z) :: (flatP l ++ flatP r)).length = m at *
      generalize frI l = F at *
      generalize frI r = G at *
      go_enter Try.func46, Try.ntmps46
      go_wp2_with fail
      refine (hbl.out _ hBA.out).mono ?_
      rintro e w1 ⟨vl, vr, rfl, hcl, hcr, hpl, hpr, b1, s1⟩
      obtain ⟨a1, c1, rfl⟩ := hpl.shape
      obtain ⟨a2, c2, rfl⟩ := hpr.shape
      replace hcl : w1.cell? ⟨w.heap.size + 1, 0, none⟩ = some (.slice a1 (flatP l).length c1) := by simpa using hcl
      replace hcr : w1.cell? ⟨w.heap.size + 1, 1, none⟩ = some (.slice a2 (flatP r).length c2) := by simpa using hcr
      have hpl := Lib.hid hpl
      have hpr := Lib.hid hpr
      generalize (flatP l).length = k at *
      generalize (flatP r).length = k2 at *
      have B1 := keep_step b1 hBA.out
      have hbox0 := keep_cell b1 hbox0
      go_wp2_with fail
      refine wp_loop_rounds 3 ?_
      rw [rounds_succ]
      go_wp2_with fail
      refine (hrl.out _ _ hpl.out).mono ?_
      rintro e w2 ⟨rfl, b2⟩
      have B2 := keep_step b2 B1
      have hbox0 := keep_cell b2 hbox0
      have hcr := keep_cell b2 hcr
      have hpr2 := Lib.hid (hpr.out.below b2 (Nat.le_refl _))
      go_wp2_with fail
      rw [rounds_succ]
      go_wp2_with fail
      refine (hrr.out _ _ hpr2.out).mono ?_
      rintro e w3 ⟨rfl, b3⟩
      have B3 := keep_step b3 B2
      have hbox0 := keep_cell b3 hbox0
      go_wp2_with fail
      rw [rounds_succ]
      go_wp2_with fail
      refine (hpp.out _).mono ?_
      rintro e w' ⟨rfl, rfl⟩
      go_wp2_with fail
      go_ret
      exact ⟨ret_int hf.out.symm, B3⟩

noncomputable def fpR (ns : List Pt) : List Int := if h : ptFormB ns = true then mem (frI (Classical.choose (pform_tree h))) else []
def fpCode (ns : List Pt) : Int := if ptFormB ns then 0 else 1
theorem fpR_length (ns : List Pt) : (fpR ns).length ≤ 64 := by
  unfold fpR
  split
  · have := mem_length_le (frI (Classical.choose (pform_tree (by assumption))))
    omega
  · simp
theorem fp_cases (ns : List Pt) : (ptFormB ns = false ∧ fpCode ns = 1 ∧ fpR ns = []) ∨ ∃ t, ptFormB ns = true ∧ fpCode ns = 0 ∧ fpR ns = mem (frI t) ∧ okP t ∧ ns = flatP t ∧ ns.length ≤ 120 ∧ ns.all ptB = true := by
  by_cases h : ptFormB ns = true
  · have hs := Classical.choose_spec (pform_tree h)
    exact .inr ⟨_, h, by unfold fpCode; rw [if_pos h], by unfold fpR; rw [dif_pos h], hs⟩
  · have h' : ptFormB ns = false := by simpa using h
    exact .inl ⟨h', by simp [fpCode, h'], by simp [fpR, h']⟩

set_option maxHeartbeats 1000000 in
theorem specFreePoints_any (v : Value) (ns : List Pt) (w : World) (h : Points w v ns) :
    Calls Try.prog 13 #[v] w fun e w' => ∃ v', e = .returned (.tuple #[v', .int .i64 (fpCode ns)]) ∧ w'.ownsRow w.heap.size 2 1 v' (fpR ns).length ((fpR ns).map (Value.int .i64)) ∧ Below w.heap.size w w' := by
  have hv := Lib.hid h
  have hia := Lib.hid (specIsPointFormula_any v ns w h)
  clear h
  rcases fp_cases ns with ⟨h1, h2, h3⟩ | ⟨t, h1, h2, h3, h4, h5, h6, h7⟩
  · have h1 := Lib.hid h1
    have h2 := Lib.hid h2
    have h3 := Lib.hid h3
    go_enter Try.func13, Try.ntmps13
    go_wp2_with fail
    refine hia.out.mono ?_
    rintro e w1 ⟨rfl, b1⟩
    rw [h1.out]
    go_wp2_with fail
    go_ret2
    exact ⟨_, by rw [h2.out]; rfl, by rw [h3.out]; exact World.ownsRow_nil _ _ _ _, b1⟩
  · have hb := frI_bounds t (by rw [← h5]; exact h7)
    have h2 := Lib.hid h2
    have h3 := Lib.hid h3
    have h1 := Lib.hid h1
    have hfr := Lib.hid (fun W (hW : Below w.heap.size w W) => l10Free_any t v W h4 (by rw [← h5]; exact h7) (by rw [← h5]; exact hv.out.below hW (Nat.le_refl _)) (by rw [← h5]; omega))
    have hmem := Lib.hid (fun W => l01List_any (frI t) hb.1 (by omega) W)
    clear h4 h5 h6 h7 hb
    go_enter Try.func13, Try.ntmps13
    go_wp2_with fail
    refine hia.out.mono ?_
    rintro e w1 ⟨rfl, b1⟩
    rw [h1.out]
    go_wp2_with fail
    refine (hfr.out _ b1).mono ?_
    rintro e w2 ⟨rfl, b2⟩
    have B2 := keep_step b2 b1
    go_wp2_with fail
    refine (hmem.out _).mono ?_
    rintro e w3 ⟨v', rfl, ho, b3⟩
    have B3 := keep_step b3 B2
    have ho := Lib.hid (own_mono ho B2.size)
    go_wp2_with fail
    go_ret2
    exact ⟨_, by rw [h2.out]; rfl, by rw [h3.out]; exact ho.out, B3⟩

set_option maxHeartbeats 1000000 in
theorem implFreePoints_any (v : Value) (ns : List Pt) (w : World) (h : Points w v ns) :
    Calls Try.prog 14 #[v] w fun e w' => ∃ v', e = .returned (.tuple #[v', .int .i64 (fpCode ns)]) ∧ w'.ownsRow w.heap.size 2 1 v' (fpR ns).length ((fpR ns).map (Value.int .i64)) ∧ Below w.heap.size w w' := by
  have hv := Lib.hid h
  have hia := Lib.hid (isPointFormula_any v ns w h)
  clear h
  rcases fp_cases ns with ⟨h1, h2, h3⟩ | ⟨t, h1, h2, h3, h4, h5, h6, h7⟩
  · have h1 := Lib.hid h1
    have h2 := Lib.hid h2
    have h3 := Lib.hid h3
    go_enter Try.func14, Try.ntmps14
    go_wp2_with fail
    refine hia.out.mono ?_
    rintro e w1 ⟨rfl, b1⟩
    rw [h1.out]
    go_wp2_with fail
    go_ret2
    exact ⟨_, by rw [h2.out]; rfl, by rw [h3.out]; exact World.ownsRow_nil _ _ _ _, b1⟩
  · have hb := frI_bounds t (by rw [← h5]; exact h7)
    have h2 := Lib.hid h2
    have h3 := Lib.hid h3
    have h1 := Lib.hid h1
    have hfr := Lib.hid (fun W (hW : Below w.heap.size w W) => freePoints_any t v W h4 (by rw [← h5]; exact h7) (by rw [← h5]; exact hv.out.below hW (Nat.le_refl _)) (by rw [← h5]; omega))
    have hmem := Lib.hid (fun W => membersOf_any (frI t) hb.1 (by omega) W)
    clear h4 h5 h6 h7 hb
    go_enter Try.func14, Try.ntmps14
    go_wp2_with fail
    refine hia.out.mono ?_
    rintro e w1 ⟨rfl, b1⟩
    rw [h1.out]
    go_wp2_with fail
    refine (hfr.out _ b1).mono ?_
    rintro e w2 ⟨rfl, b2⟩
    have B2 := keep_step b2 b1
    go_wp2_with fail
    refine (hmem.out _).mono ?_
    rintro e w3 ⟨v', rfl, ho, b3⟩
    have B3 := keep_step b3 B2
    have ho := Lib.hid (own_mono ho B2.size)
    go_wp2_with fail
    go_ret2
    exact ⟨_, by rw [h2.out]; rfl, by rw [h3.out]; exact ho.out, B3⟩
end Go.Proofs.Ytfedipeabbaccaa
