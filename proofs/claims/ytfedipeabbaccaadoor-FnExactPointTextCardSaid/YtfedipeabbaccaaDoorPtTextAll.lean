/- PointText: the program's recursion, whole; PointText of both. -/
import Derived.Test.YtfedipeabbaccaaDoorPtTextSeven
import Derived.Test.YtfedipeabbaccaaDoorPtTextOr
import Derived.Test.YtfedipeabbaccaaDoorPtTextImp
import Derived.Test.YtfedipeabbaccaaDoorPtTextNot
namespace Go.Proofs.YtfedipeabbaccaaDoor
open Go.RowKit Go.Deep

set_option maxRecDepth 100000 in
theorem pointText_any (t : PTr) : ∀ (v : Value) (w : World), okP t → (flatP t).all ptB = true → Points w v (flatP t) → (flatP t).length ≤ 120 →
    Calls Tryd.prog 31 #[v] w fun e w' => e = .returned (.string (ptT t)) ∧ Below w.heap.size w w' := by
  induction t with
  | nil => intro v w h; exact h.elim
  | node b0 o0 n l r ihl ihr =>
    intro v w ht hall h hn
    obtain ⟨x, y, z⟩ := n
    have hlen : (flatP (.node b0 o0 (x, y, z) l r)).length = 1 + (flatP l).length + (flatP r).length := by simp [flatP]; omega
    have hall0 := hall
    simp only [flatP, List.all_cons, List.all_append, Bool.and_eq_true] at hall
    obtain ⟨hb0, hal, har⟩ := hall
    have hbs := hb0
    rw [ptB_spec, Bool.and_eq_true] at hbs
    have hin := hbs.1
    simp only at hin
    rcases ht with ⟨h1, rfl, rfl⟩ | ⟨h1, h2, rfl⟩ | ⟨h1, h2, h3⟩
    · simp only at h1
      rcases leaf_kinds hin h1 with (rfl | rfl) | rfl | rfl
      · rw [ptB_sees (.inl rfl), Bool.and_eq_true] at hb0
        have y0 := inR_iff.1 hb0.1
        have z0 := inR_iff.1 hb0.2
        rw [ptT_sees]
        exact pointText_sees v y z w h y0.1 y0.2 z0.1 z0.2
      · rw [ptB_sees (.inr rfl), Bool.and_eq_true] at hb0
        have y0 := inR_iff.1 hb0.1
        have z0 := inR_iff.1 hb0.2
        rw [ptT_eq]
        exact pointText_eq v y z w h y0.1 y0.2 z0.1 z0.2
      · rw [ptB_val, Bool.and_eq_true] at hb0
        have y0 := inR_iff.1 hb0.1
        have z0 := inR_iff.1 hb0.2
        rw [ptT_val]
        have hy : y = 0 ∨ y = 1 ∨ y = 2 ∨ y = 3 ∨ y = 4 ∨ y = 5 := by omega
        rcases hy with rfl | rfl | rfl | rfl | rfl | rfl
        · exact pointText_val0 v z w h z0.1 z0.2
        · exact pointText_val1 v z w h z0.1 z0.2
        · exact pointText_val2 v z w h z0.1 z0.2
        · exact pointText_val3 v z w h z0.1 z0.2
        · exact pointText_val4 v z w h z0.1 z0.2
        · exact pointText_val5 v z w h z0.1 z0.2
      · rw [ptT_false]
        exact pointText_false v y z w h
    · simp only at h1
      have h4 := arP_one_iff h1
      rw [ptB_quant h4, Bool.and_eq_true] at hb0
      have y0 := inR_iff.1 hb0.1
      have hfl : flatP (.node b0 o0 (x, y, z) l .nil) = (x, y, z) :: flatP l := by simp [flatP]
      have hlp := flatP_pos l h2
      rw [hfl] at h
      obtain ⟨c, b, o, rfl, hc, hcm, hcell⟩ := h.raw (by simp)
      obtain ⟨hc0, hc1, hc2⟩ := point_head hcell.out
      have hpt := points_tail (c := c - 1) hcell.out (by simp at hc; omega) (by unfold maxLen; omega)
      have hrec := Lib.hid (fun W (hW : Below w.heap.size w W) => ihl _ W h2 hal (hpt.below hW (Nat.le_refl _)) (by omega))
      have hsz := ptT_cap l (by omega)
      have hlen2 : ((x, y, z) :: flatP l).length = (flatP l).length + 1 := by simp
      rw [hlen2] at hc ⊢
      rcases h4 with rfl | rfl
      · rw [ptT_all]
        exact pointText_all b o c (flatP l).length y z (ptT l) w hc (by omega) hc0 hc1 hc2 y0.1 y0.2 (by omega) hrec
      · rw [ptT_ex]
        exact pointText_ex b o c (flatP l).length y z (ptT l) w hc (by omega) hc0 hc1 hc2 y0.1 y0.2 (by omega) hrec
    · simp only at h1
      have h4 := arP_two_iff h1
      have hfl : flatP (.node b0 o0 (x, y, z) l r) = (x, y, z) :: (flatP l ++ flatP r) := rfl
      rw [hfl] at h
      have hlen2 : ((x, y, z) :: (flatP l ++ flatP r)).length = 1 + (flatP l).length + (flatP r).length := by simp; omega
      obtain ⟨c, b, o, rfl, hc, hcm, hcell⟩ := h.raw (by simp)
      rw [hlen2] at hc h ⊢
      have hp1 := points_first (c := c - 1) hcell.out (by omega) (by unfold maxLen; omega)
      have hp2 := points_second (c := c - (1 + (flatP l).length)) hcell.out (by omega) (by unfold maxLen; omega)
      have hrl := Lib.hid (fun W (hW : Below w.heap.size w W) => ihl _ W h2 hal (hp1.below hW (Nat.le_refl _)) (by omega))
      have hrr := Lib.hid (fun W (hW : Below w.heap.size w W) => ihr _ W h3 har (hp2.below hW (Nat.le_refl _)) (by omega))
      have sl := ptT_cap l (by omega)
      have sr := ptT_cap r (by omega)
      obtain ⟨x2, y2, z2, L2, hfr, hfa⟩ := headP r h3
      have hx2 : w.cell? ⟨b, o + (1 + (flatP l).length) * 3, none⟩ = some (.int .i64 x2) := by
        have h9 := hp2
        have hl2 : (flatP r).length = L2.length + 1 := by rw [hfr]; simp
        rw [hfr] at h9
        obtain ⟨c', b', o', hv, _, _, hcell'⟩ := h9.raw (by simp)
        obtain ⟨⟨rfl, rfl⟩, _⟩ : (b = b' ∧ o + (1 + (flatP l).length) * 3 = o') ∧ _ := by simpa using hv
        exact (point_head hcell'.out).1
      rcases h4 with rfl | rfl | rfl
      · rw [ptT_and]
        exact pointText_and b o c _ _ y z l r (ptT l) (ptT r) w h h2 h3 rfl rfl (by omega) sl sr hrl hrr
      · rw [ptT_or]
        exact pointText_or b o c _ _ y z l r (ptT l) (ptT r) w h h2 h3 rfl rfl (by omega) sl sr hrl hrr
      · by_cases h0 : x2 = 3
        · subst h0
          rw [ptT_not (by rw [hfa]; simp)]
          exact pointText_not b o c _ _ y z l r (ptT l) w h h2 h3 rfl rfl (by omega) sl hx2 hrl
        · rw [ptT_imp (by rw [hfa]; simpa using h0)]
          exact pointText_imp b o c _ _ y z l r (ptT l) (ptT r) w h h2 h3 rfl rfl (by omega) sl sr x2 hx2 (by show _ = _; simpa using h0) hrl hrr

theorem laid_FnExactPointText {P : Prop} (_ : P) : True := trivial

noncomputable def ptxR (ns : List Pt) : ByteArray := if h : ptFormB ns = true then ptT (Classical.choose (pform_tree h)) else ByteArray.mk #[]
def ptxCode (ns : List Pt) : Int := if ptFormB ns then 0 else 1
theorem ptx_cases (ns : List Pt) : (ptFormB ns = false ∧ ptxCode ns = 1 ∧ ptxR ns = ByteArray.mk #[]) ∨ ∃ t, ptFormB ns = true ∧ ptxCode ns = 0 ∧ ptxR ns = ptT t ∧ okP t ∧ ns = flatP t ∧ ns.length ≤ 120 ∧ ns.all ptB = true := by
  by_cases h : ptFormB ns = true
  · have hs := Classical.choose_spec (pform_tree h)
    exact .inr ⟨_, h, by unfold ptxCode; rw [if_pos h], by unfold ptxR; rw [dif_pos h], hs⟩
  · have h' : ptFormB ns = false := by simpa using h
    exact .inl ⟨h', by simp [ptxCode, h'], by simp [ptxR, h']⟩

set_option maxHeartbeats 1000000 in
theorem specPointText_any (v : Value) (ns : List Pt) (w : World) (h : Points w v ns) :
    Calls Tryd.prog 9 #[v] w fun e w' => e = .returned (.tuple #[.string (ptxR ns), .int .i64 (ptxCode ns)]) ∧ Below w.heap.size w w' := by
  have hv := Lib.hid h
  have hia := Lib.hid (specIsPointFormula_any v ns w h)
  clear h
  rcases ptx_cases ns with ⟨h1, h2, h3⟩ | ⟨t, h1, h2, h3, h4, h5, h6, h7⟩
  · have h1 := Lib.hid h1
    have h2 := Lib.hid h2
    have h3 := Lib.hid h3
    go_enter Tryd.func9, Tryd.ntmps9
    go_wp2_with fail
    refine hia.out.mono ?_
    rintro e w1 ⟨rfl, b1⟩
    rw [h1.out]
    go_wp2_with fail
    go_ret2
    exact ⟨by rw [h2.out, h3.out]; rfl, b1⟩
  · have hfr := Lib.hid (fun W (hW : Below w.heap.size w W) => l10Text_any t v W h4 (by rw [← h5]; exact h7) (by rw [← h5]; exact hv.out.below hW (Nat.le_refl _)) (by rw [← h5]; exact h6))
    replace h2 := Lib.hid h2
    replace h3 := Lib.hid h3
    replace h1 := Lib.hid h1
    clear h4 h5 h6 h7
    generalize ptT t = S at *
    go_enter Tryd.func9, Tryd.ntmps9
    go_wp2_with fail
    refine hia.out.mono ?_
    rintro e w1 ⟨rfl, b1⟩
    rw [h1.out]
    go_wp2_with fail
    refine (hfr.out _ b1).mono ?_
    rintro e w2 ⟨rfl, b2⟩
    have B2 := keep_step b2 b1
    go_wp2_with fail
    go_ret2
    exact ⟨by rw [h2.out, h3.out]; rfl, B2⟩

set_option maxHeartbeats 1000000 in
theorem implPointText_any (v : Value) (ns : List Pt) (w : World) (h : Points w v ns) :
    Calls Tryd.prog 11 #[v] w fun e w' => e = .returned (.tuple #[.string (ptxR ns), .int .i64 (ptxCode ns)]) ∧ Below w.heap.size w w' := by
  have hv := Lib.hid h
  have hia := Lib.hid (isPointFormula_any v ns w h)
  clear h
  rcases ptx_cases ns with ⟨h1, h2, h3⟩ | ⟨t, h1, h2, h3, h4, h5, h6, h7⟩
  · have h1 := Lib.hid h1
    have h2 := Lib.hid h2
    have h3 := Lib.hid h3
    go_enter Tryd.func11, Tryd.ntmps11
    go_wp2_with fail
    refine hia.out.mono ?_
    rintro e w1 ⟨rfl, b1⟩
    rw [h1.out]
    go_wp2_with fail
    go_ret2
    exact ⟨by rw [h2.out, h3.out]; rfl, b1⟩
  · have hfr := Lib.hid (fun W (hW : Below w.heap.size w W) => pointText_any t v W h4 (by rw [← h5]; exact h7) (by rw [← h5]; exact hv.out.below hW (Nat.le_refl _)) (by rw [← h5]; exact h6))
    replace h2 := Lib.hid h2
    replace h3 := Lib.hid h3
    replace h1 := Lib.hid h1
    clear h4 h5 h6 h7
    generalize ptT t = S at *
    go_enter Tryd.func11, Tryd.ntmps11
    go_wp2_with fail
    refine hia.out.mono ?_
    rintro e w1 ⟨rfl, b1⟩
    rw [h1.out]
    go_wp2_with fail
    refine (hfr.out _ b1).mono ?_
    rintro e w2 ⟨rfl, b2⟩
    have B2 := keep_step b2 b1
    go_wp2_with fail
    go_ret2
    exact ⟨by rw [h2.out, h3.out]; rfl, B2⟩
end Go.Proofs.YtfedipeabbaccaaDoor
