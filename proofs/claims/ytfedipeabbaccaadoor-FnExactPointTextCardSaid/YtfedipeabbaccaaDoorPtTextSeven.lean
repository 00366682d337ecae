/- PointText: the reference's recursion, whole. -/
import Derived.Test.YtfedipeabbaccaaDoorPtTextFour
import Derived.Test.YtfedipeabbaccaaDoorPtTextFive
import Derived.Test.YtfedipeabbaccaaDoorPtTextSix
namespace Go.Proofs.YtfedipeabbaccaaDoor
open Go.RowKit Go.Deep

theorem ptT_cap (t : PTr) (h : (flatP t).length ≤ 120) : (ptT t).size ≤ 960 := by
  have := ptT_size t
  omega
theorem ptT_and2 {b o : Nat} {y z : Int} {l r : PTr} : ptT (.node b o (4, y, z) l r) = ByteArray.mk #[40] ++ ptT l ++ ByteArray.mk #[38] ++ ptT r ++ ByteArray.mk #[41] := ptT_and
theorem headP (r : PTr) (h : okP r) : ∃ x y z L, flatP r = (x, y, z) :: L ∧ falsP r = decide (x = 3) := by
  cases r with
  | nil => exact h.elim
  | node b o n l r => exact ⟨n.1, n.2.1, n.2.2, _, rfl, rfl⟩

set_option maxHeartbeats 2000000 in
set_option maxRecDepth 100000 in
theorem l10Text_bin (v : Value) (x y z : Int) (l r : PTr) (w : World) (hx : x = 4 ∨ x = 5 ∨ x = 6) (h : Points w v ((x, y, z) :: (flatP l ++ flatP r))) (hall : ((x, y, z) :: (flatP l ++ flatP r)).all ptB = true) (h2 : okP l) (h3 : okP r) (hn : (flatP l).length + (flatP r).length ≤ 119)
    (hrl : Hid (∀ v' W, Points W v' (flatP l) → Calls Tryd.prog 28 #[v'] W fun e w' => e = .returned (.string (ptT l)) ∧ Below W.heap.size W w'))
    (hrr : Hid (∀ v' W, Points W v' (flatP r) → Calls Tryd.prog 28 #[v'] W fun e w' => e = .returned (.string (ptT r)) ∧ Below W.heap.size W w')) :
    Calls Tryd.prog 28 #[v] w fun e w' => e = .returned (.string (ptT (.node 0 0 (x, y, z) l r))) ∧ Below w.heap.size w w' := by
  have hv := Lib.hid h
  have hallh := Lib.hid hall
  obtain ⟨c, b, o, rfl, hc, hcm, hcell⟩ := h.raw (by simp)
  obtain ⟨hc0, hc1, hc2⟩ := point_head hcell.out
  have hll : (flatP l).length + (flatP r).length ≤ 900 := by omega
  have hL := Lib.hid (fun W (hW : Below w.heap.size w W) => l10Left_any _ _ l r W (hv.out.below hW (Nat.le_refl _)) hallh.out h2 h3 hll)
  have hR := Lib.hid (fun W (hW : Below w.heap.size w W) => l10Right_any _ _ l r W (hv.out.below hW (Nat.le_refl _)) hallh.out h2 h3 hll)
  have sl : (ptT l).size ≤ 960 := ptT_cap l (by omega)
  have sr : (ptT r).size ≤ 960 := ptT_cap r (by omega)
  have hBA := Lib.hid ((Below.refl w.heap.size w).alloc (Nat.le_refl _) (.cells #[.int .i64 x, .int .i64 y, .int .i64 z] 49))
  have hbox0 : (w.alloc (.cells #[.int .i64 x, .int .i64 y, .int .i64 z] 49)).cell? ⟨w.heap.size, 0, none⟩ = some (.int .i64 x) := by rw [World.cell?_alloc_at _ _ _ _ rfl]; rfl
  obtain ⟨x2, y2, z2, L2, hfr, hfa⟩ := headP r h3
  have hpos : 0 < ((x, y, z) :: (flatP l ++ flatP r)).length := by simp
  have hand := Lib.hid (@ptT_and 0 0 y z l r)
  have hor := Lib.hid (@ptT_or 0 0 y z l r)
  have hnot := Lib.hid (@ptT_not 0 0 y z l r)
  have himp := Lib.hid (@ptT_imp 0 0 y z l r)
  have hfrh := Lib.hid hfr
  have hfah := Lib.hid hfa
  clear h hall hcell hcm hc hll hv hallh h2 h3 hn hfr hfa
  generalize ((x, y, z) :: (flatP l ++ flatP r)).length = m at *
  generalize ptT l = SL at *
  generalize ptT r = SR at *
  rcases hx with rfl | rfl | rfl
  · go_enter Tryd.func28, Tryd.ntmps28
    go_wp2_with fail
    refine (hL.out _ hBA.out).mono ?_
    rintro e w1 ⟨⟨vl, rfl, hpl⟩, rfl⟩
    go_wp2_with fail
    refine (hR.out _ hBA.out).mono ?_
    rintro e w1 ⟨⟨vr, rfl, hpr⟩, rfl⟩
    go_wp2_with fail
    refine (hrl.out _ _ hpl).mono ?_
    rintro e w1 ⟨rfl, b1⟩
    have B1 := keep_step b1 hBA.out
    have hpr2 := hpr.below b1 (Nat.le_refl _)
    go_wp2_with fail
    refine (hrr.out _ _ hpr2).mono ?_
    rintro e w2 ⟨rfl, b2⟩
    have B2 := keep_step b2 B1
    go_wp2_with fail
    go_ret
    exact ⟨by rw [hand.out]; rfl, B2⟩
  · go_enter Tryd.func28, Tryd.ntmps28
    go_wp2_with fail
    refine (hL.out _ hBA.out).mono ?_
    rintro e w1 ⟨⟨vl, rfl, hpl⟩, rfl⟩
    go_wp2_with fail
    refine (hR.out _ hBA.out).mono ?_
    rintro e w1 ⟨⟨vr, rfl, hpr⟩, rfl⟩
    go_wp2_with fail
    refine (hrl.out _ _ hpl).mono ?_
    rintro e w1 ⟨rfl, b1⟩
    have B1 := keep_step b1 hBA.out
    have hpr2 := hpr.below b1 (Nat.le_refl _)
    go_wp2_with fail
    refine (hrr.out _ _ hpr2).mono ?_
    rintro e w2 ⟨rfl, b2⟩
    have B2 := keep_step b2 B1
    go_wp2_with fail
    go_ret
    exact ⟨by rw [hor.out]; rfl, B2⟩
  · go_enter Tryd.func28, Tryd.ntmps28
    go_wp2_with fail
    refine (hL.out _ hBA.out).mono ?_
    rintro e w1 ⟨⟨vl, rfl, hpl⟩, rfl⟩
    go_wp2_with fail
    refine (hR.out _ hBA.out).mono ?_
    rintro e w1 ⟨⟨vr, rfl, hpr⟩, rfl⟩
    have hprh := Lib.hid hpr
    rw [hfrh.out] at hpr
    obtain ⟨cr, br, or, rfl, hcr, hcrm, hcellr⟩ := hpr.raw (by simp)
    obtain ⟨hr0, hr1, hr2⟩ := point_head hcellr.out
    have hposr : 0 < ((x2, y2, z2) :: L2).length := by simp
    clear hcellr hcrm hcr hpr
    generalize ((x2, y2, z2) :: L2).length = mr at *
    by_cases hx2 : x2 = 3
    · have hnot2 := Lib.hid (hnot.out (by rw [hfah.out]; simpa using hx2))
      subst hx2
      go_wp2_with fail
      refine (hrl.out _ _ hpl).mono ?_
      rintro e w1 ⟨rfl, b1⟩
      have B1 := keep_step b1 hBA.out
      go_wp2_with fail
      go_ret
      exact ⟨by rw [hnot2.out]; rfl, B1⟩
    · have himp2 := Lib.hid (himp.out (by rw [hfah.out]; simpa using hx2))
      have e2 : (x2 == 3) = false := by simpa using hx2
      clear hx2
      go_wp2_with fail
      refine (hrl.out _ _ hpl).mono ?_
      rintro e w1 ⟨rfl, b1⟩
      have B1 := keep_step b1 hBA.out
      have hpr2 := hprh.out.below b1 (Nat.le_refl _)
      go_wp2_with fail
      refine (hrr.out _ _ hpr2).mono ?_
      rintro e w2 ⟨rfl, b2⟩
      have B2 := keep_step b2 B1
      go_wp2_with fail
      go_ret
      exact ⟨by rw [himp2.out]; rfl, B2⟩

theorem l10Text_any (t : PTr) : ∀ (v : Value) (w : World), okP t → (flatP t).all ptB = true → Points w v (flatP t) → (flatP t).length ≤ 120 →
    Calls Tryd.prog 28 #[v] w fun e w' => e = .returned (.string (ptT t)) ∧ Below w.heap.size w w' := by
  induction t with
  | nil => intro v w h; exact h.elim
  | node b0 o0 n l r ihl ihr =>
    intro v w ht hall h hn
    obtain ⟨x, y, z⟩ := n
    have hlen : (flatP (.node b0 o0 (x, y, z) l r)).length = 1 + (flatP l).length + (flatP r).length := by simp [flatP]; omega
    have hall0 := hall
    simp only [flatP, List.all_cons, List.all_append, Bool.and_eq_true] at hall
    obtain ⟨hb0, hal, har⟩ := hall
    have hbs := hb0
    rw [ptB_spec, Bool.and_eq_true] at hbs
    have hin := hbs.1
    simp only at hin
    rcases ht with ⟨h1, rfl, rfl⟩ | ⟨h1, h2, rfl⟩ | ⟨h1, h2, h3⟩
    · simp only at h1
      rcases leaf_kinds hin h1 with (rfl | rfl) | rfl | rfl
      · rw [ptB_sees (.inl rfl), Bool.and_eq_true] at hb0
        have y0 := inR_iff.1 hb0.1
        have z0 := inR_iff.1 hb0.2
        rw [ptT_sees]
        exact l10Text_sees v y z w h y0.1 y0.2 z0.1 z0.2
      · rw [ptB_sees (.inr rfl), Bool.and_eq_true] at hb0
        have y0 := inR_iff.1 hb0.1
        have z0 := inR_iff.1 hb0.2
        rw [ptT_eq]
        exact l10Text_eq v y z w h y0.1 y0.2 z0.1 z0.2
      · rw [ptB_val, Bool.and_eq_true] at hb0
        have y0 := inR_iff.1 hb0.1
        have z0 := inR_iff.1 hb0.2
        rw [ptT_val]
        exact l10Text_val v y z w h y0.1 y0.2 z0.1 z0.2
      · rw [ptT_false]
        exact l10Text_false v y z w h
    · simp only at h1
      have h4 := arP_one_iff h1
      rw [ptB_quant h4, Bool.and_eq_true] at hb0
      have y0 := inR_iff.1 hb0.1
      have hfl : flatP (.node b0 o0 (x, y, z) l .nil) = (x, y, z) :: flatP l := by simp [flatP]
      have hlp := flatP_pos l h2
      rw [hfl] at h
      obtain ⟨c, b, o, rfl, hc, hcm, hcell⟩ := h.raw (by simp)
      obtain ⟨hc0, hc1, hc2⟩ := point_head hcell.out
      have hpt := points_tail (c := c - 1) hcell.out (by simp at hc; omega) (by unfold maxLen; omega)
      have hrec := Lib.hid (fun W (hW : Below w.heap.size w W) => ihl _ W h2 hal (hpt.below hW (Nat.le_refl _)) (by omega))
      have hsz := ptT_cap l (by omega)
      have hlen2 : ((x, y, z) :: flatP l).length = (flatP l).length + 1 := by simp
      rw [hlen2] at hc ⊢
      rcases h4 with rfl | rfl
      · rw [ptT_all]
        exact l10Text_all b o c (flatP l).length y z (ptT l) w hc (by omega) hc0 hc1 hc2 y0.1 y0.2 (by omega) hrec
      · rw [ptT_ex]
        exact l10Text_ex b o c (flatP l).length y z (ptT l) w hc (by omega) hc0 hc1 hc2 y0.1 y0.2 (by omega) hrec
    · simp only at h1
      have h4 := arP_two_iff h1
      exact l10Text_bin v x y z l r w h4 h hall0 h2 h3 (by omega) (Lib.hid fun v' W hP => ihl v' W h2 hal hP (by omega)) (Lib.hid fun v' W hP => ihr v' W h3 har hP (by omega))
end Go.Proofs.YtfedipeabbaccaaDoor
