/- FreePoints: the recursion, of both. -/
import Derived.Test.YtfedipeabbaccaaFree
namespace Go.Proofs.Ytfedipeabbaccaa
open Go.RowKit Go.Deep

theorem pow_fact {y : Int} (h : inR y 0 9 = true) : 0 ≤ y ∧ y ≤ 9 ∧ 1 ≤ (2 : Int) ^ y.toNat ∧ (2 : Int) ^ y.toNat ≤ 512 := by
  obtain ⟨h0, h1⟩ := inR_iff.1 h
  have hp := pow_bounds y 9 (by omega)
  rw [show (2 : Int) ^ 9 = 512 by decide] at hp
  omega
theorem leaf_kinds {x : Int} (h : inR x 0 8 = true) (h1 : arP x = 0) : (x = 0 ∨ x = 1) ∨ x = 2 ∨ x = 3 := by
  have h0 := inR_iff.1 h
  unfold arP at h1
  split at h1
  · cases h1
  · split at h1
    · cases h1
    · omega

set_option maxHeartbeats 2000000 in
set_option maxRecDepth 100000 in
theorem l10Free_any (t : PTr) : ∀ (v : Value) (w : World), okP t → (flatP t).all ptB = true → Points w v (flatP t) → (flatP t).length ≤ 900 →
    Calls Try.prog 44 #[v] w fun e w' => e = .returned (.int .i64 (frI t)) ∧ Below w.heap.size w w' := by
  induction t with
  | nil => intro v w h; exact h.elim
  | node b0 o0 n l r ihl ihr =>
    intro v w ht hall h hn
    have IHL := Lib.hid ihl
    have IHR := Lib.hid ihr
    clear ihl ihr
    have hv := Lib.hid h
    obtain ⟨x, y, z⟩ := n
    have hlen : (flatP (.node b0 o0 (x, y, z) l r)).length = 1 + (flatP l).length + (flatP r).length := by simp [flatP]; omega
    obtain ⟨c, b, o, rfl, hc, hcm, hcell⟩ := h.raw (by omega)
    obtain ⟨hc0, hc1, hc2⟩ := point_head hcell.out
    have hallh := Lib.hid hall
    simp only [flatP, List.all_cons, List.all_append, Bool.and_eq_true] at hall
    obtain ⟨hb0, hal, har⟩ := hall
    have hbs := hb0
    rw [ptB_spec, Bool.and_eq_true] at hbs
    have hin := hbs.1
    simp only at hin
    have hpos : 0 < (flatP (.node b0 o0 (x, y, z) l r)).length := by omega
    have hbox0 : (w.alloc (.cells #[.int .i64 x, .int .i64 y, .int .i64 z] 59)).cell? ⟨w.heap.size, 0, none⟩ = some (.int .i64 x) := by rw [World.cell?_alloc_at _ _ _ _ rfl]; rfl
    have hbox1 : (w.alloc (.cells #[.int .i64 x, .int .i64 y, .int .i64 z] 59)).cell? ⟨w.heap.size, 1, none⟩ = some (.int .i64 y) := by rw [World.cell?_alloc_at _ _ _ _ rfl]; rfl
    have hBA := Lib.hid ((Below.refl w.heap.size w).alloc (Nat.le_refl _) (.cells #[.int .i64 x, .int .i64 y, .int .i64 z] 59))
    rcases ht with ⟨h1, rfl, rfl⟩ | ⟨h1, h2, rfl⟩ | ⟨h1, h2, h3⟩
    · simp only at h1
      rcases leaf_kinds hin h1 with h4 | rfl | rfl
      · have hf := Lib.hid (frI_sees (b := b0) (o := o0) (y := y) (z := z) (l := .nil) (r := .nil) h4)
        rw [ptB_sees h4, Bool.and_eq_true] at hb0
        obtain ⟨y0, y1, y2, y3⟩ := pow_fact hb0.1
        obtain ⟨z0, z1, z2, z3⟩ := pow_fact hb0.2
        have ho1 := Lib.hid (fun w' => l01One_any y y0 (by omega) w')
        have ho2 := Lib.hid (fun w' => l01One_any z z0 (by omega) w')
        clear hcell hbs hin hb0 hbox0 hbox1 hn hcm hc hlen h1
        generalize (flatP (.node b0 o0 (x, y, z) .nil .nil)).length = m at *
        rcases h4 with rfl | rfl
        all_goals
          go_enter Try.func44, Try.ntmps44
          go_wp2_with fail
          go_quiet (first | (go_at_call_of 71 (Value.int .i64 y); exact quiet_eq (ho1.out _)) | (go_at_call_of 71 (Value.int .i64 z); exact quiet_eq (ho2.out _)))
          go_wp2_with fail
          go_ret
          exact ⟨ret_int hf.out.symm, below_drewN hBA.out _⟩
      · have hf := Lib.hid (frI_val (b := b0) (o := o0) (y := y) (z := z) (l := .nil) (r := .nil))
        rw [ptB_val, Bool.and_eq_true] at hb0
        obtain ⟨z0, z1, z2, z3⟩ := pow_fact hb0.2
        have ho2 := Lib.hid (fun w' => l01One_any z z0 (by omega) w')
        clear hcell hbs hin hb0 hbox0 hbox1 hn hcm hc hlen h1
        generalize (flatP (.node b0 o0 (2, y, z) .nil .nil)).length = m at *
        go_enter Try.func44, Try.ntmps44
        go_wp2_with fail
        refine (ho2.out _).mono ?_
        rintro e w' ⟨rfl, rfl⟩
        go_wp2_with fail
        go_ret
        exact ⟨ret_int hf.out.symm, hBA.out⟩
      · have hf := Lib.hid (frI_none (b := b0) (o := o0) (y := y) (z := z) (l := .nil) (r := .nil) h1 (by omega))
        clear hcell hbs hin hb0 hbox0 hbox1 hn hcm hc hlen h1
        generalize (flatP (.node b0 o0 (3, y, z) .nil .nil)).length = m at *
        go_enter Try.func44, Try.ntmps44
        go_wp2_with fail
        go_ret
        exact ⟨ret_int hf.out.symm, hBA.out⟩
    · simp only at h1
      have h4 := arP_one_iff h1
      have hf := Lib.hid (frI_un (b := b0) (o := o0) (y := y) (z := z) (l := l) (r := .nil) h1)
      rw [ptB_quant h4, Bool.and_eq_true] at hb0
      obtain ⟨y0, y1, y2, y3⟩ := pow_fact hb0.1
      have ho1 := Lib.hid (fun w' => l01One_any y y0 (by omega) w')
      have hfl : flatP (.node b0 o0 (x, y, z) l .nil) = (x, y, z) :: flatP l := by simp [flatP]
      have hlp := flatP_pos l h2
      have hll : (flatP l).length ≤ 900 := by omega
      rw [hfl] at hcell hc ⊢
      have hpt := points_tail (c := c - 1) hcell.out (by simp at hc; omega) (by unfold maxLen; omega)
      have hrec := Lib.hid (fun W (hW : Below w.heap.size w W) => IHL.out _ W h2 hal (hpt.below hW (Nat.le_refl _)) hll)
      have hc3 : 1 < c := by simp at hc; omega
      have hlen2 : ((x, y, z) :: flatP l).length = (flatP l).length + 1 := by simp
      rw [hlen2] at hc ⊢
      clear hcell hbs hin hb0 hbox0 hn hcm hlen h1 hv hallh hpt hal har hpos hfl hlen2 hll
      generalize (flatP l).length = m at *
      rcases h4 with rfl | rfl
      all_goals
        go_enter Try.func44, Try.ntmps44
        go_wp2_with fail
        generalize hA : w.alloc (.cells #[.int .i64 _, .int .i64 y, .int .i64 z] 59) = A at *
        replace hA := Lib.hid hA
        have hrec2 := Lib.hid (fun W (hW : Below A.heap.size A W) => hrec.out W (hBA.out.trans (hW.mono hBA.out.size)))
        go_region_with (first | (go_at_call_of 71 (Value.int .i64 y); refine (ho1.out _).mono ?_; rintro e w' ⟨rfl, rfl⟩) | (go_at_call 44; refine (hrec2.out _ (by first | exact Below.refl _ _ | exact Below.drew (Below.refl _ _) | exact below_drewN' _ _)).mono ?_; rintro e w3 ⟨rfl, b3⟩; have hbox3 := b3.cell (World.block_lt_of_cell? A _ hbox1); have hbox4 := hbox3.trans hbox1))
        all_goals
          have hB3 : Below A.heap.size A w3 := ⟨b3.os, b3.tape, b3.output, b3.size, b3.block⟩
          go_wp2_with fail
          go_ret
          exact ⟨ret_int hf.out.symm, hBA.out.trans (hB3.mono hBA.out.size)⟩
    · simp only at h1
      have h4 := arP_two_iff h1
      have hf := Lib.hid (frI_bin (b := b0) (o := o0) (y := y) (z := z) (l := l) (r := r) h1)
      have hfl : flatP (.node b0 o0 (x, y, z) l r) = (x, y, z) :: (flatP l ++ flatP r) := rfl
      have hll : (flatP l).length + (flatP r).length ≤ 900 := by omega
      rw [hfl] at hv hallh hpos ⊢
      have hL := Lib.hid (fun W (hW : Below w.heap.size w W) => l10Left_any _ _ l r W (hv.out.below hW (Nat.le_refl _)) hallh.out h2 h3 hll)
      have hR := Lib.hid (fun W (hW : Below w.heap.size w W) => l10Right_any _ _ l r W (hv.out.below hW (Nat.le_refl _)) hallh.out h2 h3 hll)
      have hrl := Lib.hid (fun v' W hP => IHL.out v' W h2 hal hP (by omega))
      have hrr := Lib.hid (fun v' W hP => IHR.out v' W h3 har hP (by omega))
      clear hcell hbs hin hb0 hbox0 hbox1 hn hcm hlen h1 hv hallh hal har hfl hll hc
      generalize ((x, y, z) :: (flatP l ++ flatP r)).length = m at *
      rcases h4 with rfl | rfl | rfl
      all_goals
        go_enter Try.func44, Try.ntmps44
        go_wp2_with fail
        refine (hL.out _ hBA.out).mono ?_
        rintro e w1 ⟨⟨vl, rfl, hpl⟩, rfl⟩
        go_wp2_with fail
        refine (hrl.out _ _ hpl).mono ?_
        rintro e w1 ⟨rfl, b1⟩
        have B1 := keep_step b1 hBA.out
        go_wp2_with fail
        refine (hR.out _ B1).mono ?_
        rintro e w2 ⟨⟨vr, rfl, hpr⟩, rfl⟩
        go_wp2_with fail
        refine (hrr.out _ _ hpr).mono ?_
        rintro e w2 ⟨rfl, b2⟩
        have B2 := keep_step b2 B1
        go_wp2_with fail
        go_ret
        exact ⟨ret_int hf.out.symm, B2⟩
end Go.Proofs.Ytfedipeabbaccaa
