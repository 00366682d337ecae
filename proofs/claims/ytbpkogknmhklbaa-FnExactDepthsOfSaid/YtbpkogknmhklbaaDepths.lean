/- Walks of DepthsOf, of the program and of the reference. -/
import Derived.Test.YtbpkogknmhklbaaPlain
namespace Go.Proofs.Ytbpkogknmhklbaa
open Go.RowKit Go.Deep

theorem depthH_leaf {b o : Nat} {n : Nd} {l r : Tr} (h : ar n.1 = 0) : depthH (.node b o n l r) = 0 ∧ depthM (.node b o n l r) = 0 := by simp [depthH, depthM, h]
theorem depthH_un {b o : Nat} {n : Nd} {l r : Tr} (h : ar n.1 = 1) : depthH (.node b o n l r) = depthH l + 1 ∧ depthM (.node b o n l r) = depthM l + 1 := by simp [depthH, depthM, h]
theorem depthH_bin {b o : Nat} {n : Nd} {l r : Tr} (h : ar n.1 = 2) : depthH (.node b o n l r) = max (depthH l) (depthH r) + 1 ∧ depthM (.node b o n l r) = max (depthM l) (depthM r) := by simp [depthH, depthM, h]

set_option maxHeartbeats 1000000 in
theorem l02Depths_any (t : Tr) : ∀ (v : Value) (w : World), okT t → Nodes w v (flat t) → (flat t).length ≤ 1000000 →
    Calls Try.prog 47 #[v] w fun e w' => e = .returned (.tuple #[.int .i64 (depthH t), .int .i64 (depthM t)]) ∧ w = w' := by
  induction t with
  | nil => intro v w h; exact h.elim
  | node b0 o0 n l r ihl ihr =>
    intro v w ht h hn
    have IHL := Lib.hid ihl
    have IHR := Lib.hid ihr
    clear ihl ihr
    have hv := Lib.hid h
    obtain ⟨x, y⟩ := n
    have hlen : (flat (.node b0 o0 (x, y) l r)).length = 1 + (flat l).length + (flat r).length := by simp [flat]; omega
    obtain ⟨c, b, o, rfl, hc, hcm, hcell⟩ := h.raw (by omega)
    obtain ⟨hc0, hc1⟩ := node_head hcell.out
    clear h hcm
    simp only at hc0 hc1
    rcases ht with ⟨h1, rfl, rfl⟩ | ⟨h1, h2, rfl⟩ | ⟨h1, h2, h3⟩
    · have hf := Lib.hid (depthH_leaf (b := b0) (o := o0) (l := .nil) (r := .nil) h1)
      simp only at h1
      have hL : (flat (.node b0 o0 (x, y) .nil .nil)).length = 1 := rfl
      rw [hL] at hc hv ⊢
      clear hlen hn
      go_enter Try.func47, Try.ntmps47
      go_wp2_with (go_at_call 78; refine (l02Parts_any _ _).mono ?_; rintro e w' ⟨rfl, rfl⟩)
      go_ret2
      exact ⟨by rw [hf.out.1, hf.out.2]; rfl, rfl⟩
    · have hf := Lib.hid (depthH_un (b := b0) (o := o0) (l := l) (r := .nil) h1)
      simp only at h1
      have hb := depth_bounds l
      have hL : (flat (.node b0 o0 (x, y) l .nil)).length = (flat l).length + 1 := by simp [flat]
      rw [hL] at hc hv ⊢
      have hll : (flat l).length ≤ 1000000 := by omega
      have hpl := flat_pos l h2
      have hc2 : 1 < c := by omega
      have htail := Lib.hid (node_tail (c := c - 1) (show ∀ j u, (cellsN ((x, y) :: flat l))[j]? = some u → w.cell? ⟨b, o + j, none⟩ = some u by simpa [flat] using hcell.out) (by omega) (by unfold maxLen; omega))
      clear hlen hn hL
      go_enter Try.func47, Try.ntmps47
      go_wp2_with (go_at_call 78; refine (l02Parts_any _ _).mono ?_; rintro e w' ⟨rfl, rfl⟩)
      refine (IHL.out _ _ h2 ?_ hll).mono ?_
      · exact htail.out
      rintro e w' ⟨rfl, rfl⟩
      go_wp2_with fail
      go_ret2
      exact ⟨by rw [hf.out.1, hf.out.2]; rfl, rfl⟩
    · have hf := Lib.hid (depthH_bin (b := b0) (o := o0) (l := l) (r := r) h1)
      simp only at h1
      have hb := depth_bounds l
      have hb' := depth_bounds r
      rw [hlen] at hc hv ⊢
      have hnn : (flat l).length + (flat r).length ≤ 1000000 := by omega
      clear hlen hn
      go_enter Try.func47, Try.ntmps47
      go_wp2_with (go_at_call 78; refine (l02Parts_any _ _).mono ?_; rintro e w' ⟨rfl, rfl⟩)
      refine (l02Left_any _ (x, y) l r _ hv.out h2 hnn).mono ?_
      rintro e w' ⟨⟨vl, rfl, hl⟩, rfl⟩
      have hl := Lib.hid hl
      go_wp2_with fail
      refine (IHL.out _ _ h2 hl.out (by omega)).mono ?_
      rintro e w' ⟨rfl, rfl⟩
      go_wp2_with fail
      refine (l02Right_any _ (x, y) l r _ hv.out h2 h3 hnn).mono ?_
      rintro e w' ⟨⟨vr, rfl, hr⟩, rfl⟩
      have hr := Lib.hid hr
      go_wp2_with fail
      refine (IHR.out _ _ h3 hr.out (by omega)).mono ?_
      rintro e w' ⟨rfl, rfl⟩
      go_wp2_with fail
      all_goals
        go_ret2
        exact ⟨by rw [hf.out.1, hf.out.2]; rfl, rfl⟩

theorem modal_of_ar0 {k : Int} (h : ar k = 0) : modalB k = false := by
  apply modal_no
  unfold ar at h
  split at h
  · cases h
  · split at h
    · cases h
    · omega
theorem modal_of_ar1 {k : Int} (h : ar k = 1) : modalB k = true := by
  apply modal_yes
  unfold ar at h
  split at h
  · cases h
  · split at h
    · assumption
    · cases h
theorem modal_of_ar2 {k : Int} (h : ar k = 2) : modalB k = false := by
  apply modal_no
  unfold ar at h
  split at h
  · omega
  · split at h <;> cases h

set_option maxHeartbeats 2000000 in
theorem depths_any (t : Tr) : ∀ (v : Value) (w : World), okT t → Nodes w v (flat t) → (flat t).length ≤ 1000000 →
    Calls Try.prog 48 #[v] w fun e w' => e = .returned (.tuple #[.int .i64 (depthH t), .int .i64 (depthM t)]) ∧ Below w.heap.size w w' := by
  induction t with
  | nil => intro v w h; exact h.elim
  | node b0 o0 n l r ihl ihr =>
    intro v w ht h hn
    have IHL := Lib.hid ihl
    have IHR := Lib.hid ihr
    clear ihl ihr
    have hv := Lib.hid h
    obtain ⟨x, y⟩ := n
    have hlen : (flat (.node b0 o0 (x, y) l r)).length = 1 + (flat l).length + (flat r).length := by simp [flat]; omega
    obtain ⟨c, b, o, rfl, hc, hcm, hcell⟩ := h.raw (by omega)
    obtain ⟨hc0, hc1⟩ := node_head hcell.out
    have lb := World.block_lt_of_cell? w _ hc0
    simp only at lb
    clear h hcm hcell
    simp only at hc0 hc1
    have hpos : 0 < (flat (.node b0 o0 (x, y) l r)).length := by omega
    rcases ht with ⟨h1, rfl, rfl⟩ | ⟨h1, h2, rfl⟩ | ⟨h1, h2, h3⟩
    · have hf := Lib.hid (depthH_leaf (b := b0) (o := o0) (l := .nil) (r := .nil) h1)
      simp only at h1
      have hm := modal_of_ar0 h1
      have hfl : flat (.node b0 o0 (x, y) .nil .nil) = [(x, y)] := rfl
      rw [hfl] at hv hpos ⊢
      clear hlen hn hc hfl
      generalize [(x, y)].length = m at *
      go_enter Try.func48, Try.ntmps48
      go_wp2_with (go_at_call 81; refine (parts_leaf _ (x, y) _ hv.out h1).mono ?_; rintro e w' ⟨rfl, rfl⟩)
      refine wp_loop_rounds 1 ?_
      rw [rounds_succ]
      go_wp2_with (go_at_call 77; refine (isModal_any _ _).mono ?_; rintro e w' ⟨rfl, rfl⟩)
      go_ret2
      exact ⟨by rw [hf.out.1, hf.out.2]; rfl, Below.refl _ _⟩
    · have hf := Lib.hid (depthH_un (b := b0) (o := o0) (l := l) (r := .nil) h1)
      simp only at h1
      have hm := modal_of_ar1 h1
      have hb := depth_bounds l
      have hll : (flat l).length ≤ 1000000 := by omega
      have hfl : flat (.node b0 o0 (x, y) l .nil) = (x, y) :: flat l := by simp [flat]
      rw [hfl] at hv hpos ⊢
      clear hlen hn hc hfl
      generalize ((x, y) :: flat l).length = m at *
      go_enter Try.func48, Try.ntmps48
      go_wp2_with fail
      refine (parts_un _ (x, y) l _ hv.out h1 h2 hll).mono ?_
      rintro e w1 ⟨vl, rfl, hcl, hvl, b1, s1⟩
      have hvl := Lib.hid hvl
      have hc0 := keep_cell b1 hc0
      go_wp2_with fail
      refine wp_loop_rounds 2 ?_
      rw [rounds_succ]
      go_wp2_with fail
      refine (IHL.out _ _ h2 hvl.out hll).mono ?_
      rintro e w2 ⟨rfl, b2⟩
      have hc0 := keep_cell b2 hc0
      go_wp2_with fail
      rw [rounds_succ]
      go_wp2_with (go_at_call 77; refine (isModal_any _ _).mono ?_; rintro e w' ⟨rfl, rfl⟩)
      go_ret2
      refine ⟨ret2_int (by rw [hf.out.1]; omega) (by rw [hf.out.2]; omega), ?_⟩
      exact b1.trans (b2.mono (by omega))
    · have hf := Lib.hid (depthH_bin (b := b0) (o := o0) (l := l) (r := r) h1)
      simp only at h1
      have hm := modal_of_ar2 h1
      have hb := depth_bounds l
      have hb' := depth_bounds r
      have hnn : (flat l).length + (flat r).length ≤ 1000000 := by omega
      have hfl : flat (.node b0 o0 (x, y) l r) = (x, y) :: (flat l ++ flat r) := rfl
      rw [hfl] at hv hpos ⊢
      clear hlen hn hc hfl
      generalize ((x, y) :: (flat l ++ flat r)).length = m at *
      go_enter Try.func48, Try.ntmps48
      go_wp2_with fail
      refine (parts_bin _ (x, y) l r _ hv.out h1 h2 h3 hnn).mono ?_
      rintro e w1 ⟨vl, vr, rfl, hcl, hcr, hvl, hvr, b1, s1⟩
      have hvl := Lib.hid hvl
      have hvr := Lib.hid hvr
      have hc0 := keep_cell b1 hc0
      go_wp2_with fail
      refine wp_loop_rounds 3 ?_
      rw [rounds_succ]
      go_wp2_with fail
      refine (IHL.out _ _ h2 hvl.out (by omega)).mono ?_
      rintro e w2 ⟨rfl, b2⟩
      have hc0 := keep_cell b2 hc0
      have hcr := keep_cell b2 hcr
      go_wp2_with fail
      rw [rounds_succ]
      go_wp2_with fail
      refine (IHR.out _ _ h3 (hvr.out.below b2 (Nat.le_refl _)) (by omega)).mono ?_
      rintro e w3 ⟨rfl, b3⟩
      have hc0 := keep_cell b3 hc0
      go_wp2_with fail
      rw [rounds_succ]
      go_wp2_with (go_at_call 77; refine (isModal_any _ _).mono ?_; rintro e w' ⟨rfl, rfl⟩)
      have s2 := b2.size
      go_ret2
      refine ⟨ret2_int (by rw [hf.out.1]; omega) (by rw [hf.out.2]; omega), ?_⟩
      exact b1.trans ((b2.mono (by omega)).trans (b3.mono (by omega)))

def depthsR (ns : List Nd) : Int × Int := if formB ns then (depthH (treeOf ns), depthM (treeOf ns)) else (0, 0)

theorem form_len {ns : List Nd} (h : formB ns = true) : ns.length ≤ 40 := by
  obtain ⟨_, _, _, h2, _⟩ := form_tree h
  exact h2

theorem implDepthsOf_any (v : Value) (ns : List Nd) (w : World) (h : Nodes w v ns) :
    Calls Try.prog 21 #[v] w fun e w' => e = .returned (.tuple #[.int .i64 (depthsR ns).1, .int .i64 (depthsR ns).2, .int .i64 (formCode ns)]) ∧ Below w.heap.size w w' := by
  have hv := Lib.hid h
  clear h
  cases hB : formB ns
  · have hf := Lib.hid (show depthsR ns = (0, 0) ∧ formCode ns = 1 by simp [depthsR, formCode, hB])
    go_enter Try.func21, Try.ntmps21
    go_wp2_with (go_at_call 43; refine (isFormula_any _ ns _ hv.out).mono ?_; rintro e w' ⟨rfl, hb⟩)
    go_ret3
    exact ⟨by rw [hf.out.1, hf.out.2]; rfl, hb⟩
  · have hf := Lib.hid (show depthsR ns = (depthH (treeOf ns), depthM (treeOf ns)) ∧ formCode ns = 0 by simp [depthsR, formCode, hB])
    have hl := form_len hB
    obtain ⟨ht, hfl⟩ := treeOf_spec hB
    have hfl := Lib.hid hfl
    go_enter Try.func21, Try.ntmps21
    go_wp2_with fail
    refine (isFormula_any _ ns _ hv.out).mono ?_
    rintro e w1 ⟨rfl, b1⟩
    go_wp2_with fail
    refine (depths_any (treeOf ns) _ _ ht (by rw [hfl.out]; exact hv.out.below b1 (Nat.le_refl _)) (by rw [hfl.out]; omega)).mono ?_
    rintro e w2 ⟨rfl, b2⟩
    go_wp2_with fail
    go_ret3
    exact ⟨by rw [hf.out.1, hf.out.2]; rfl, b1.trans (b2.mono b1.size)⟩

theorem specDepthsOf_any (v : Value) (ns : List Nd) (w : World) (h : Nodes w v ns) :
    Calls Try.prog 20 #[v] w fun e w' => e = .returned (.tuple #[.int .i64 (depthsR ns).1, .int .i64 (depthsR ns).2, .int .i64 (formCode ns)]) ∧ Below w.heap.size w w' := by
  have hv := Lib.hid h
  clear h
  cases hB : formB ns
  · have hf := Lib.hid (show depthsR ns = (0, 0) ∧ formCode ns = 1 by simp [depthsR, formCode, hB])
    go_enter Try.func20, Try.ntmps20
    go_wp2_with (go_at_call 41; refine (l02Is_any _ ns _ hv.out).mono ?_; rintro e w' ⟨rfl, rfl⟩)
    go_ret3
    exact ⟨by rw [hf.out.1, hf.out.2]; rfl, Below.refl _ _⟩
  · have hf := Lib.hid (show depthsR ns = (depthH (treeOf ns), depthM (treeOf ns)) ∧ formCode ns = 0 by simp [depthsR, formCode, hB])
    have hl := form_len hB
    obtain ⟨ht, hfl⟩ := treeOf_spec hB
    have hfl := Lib.hid hfl
    go_enter Try.func20, Try.ntmps20
    go_wp2_with (first | (go_at_call 41; refine (l02Is_any _ ns _ hv.out).mono ?_; rintro e w' ⟨rfl, rfl⟩) | (go_at_call 47; refine (l02Depths_any (treeOf ns) _ _ ht (by rw [hfl.out]; exact hv.out) (by rw [hfl.out]; omega)).mono ?_; rintro e w' ⟨rfl, rfl⟩))
    go_ret3
    exact ⟨by rw [hf.out.1, hf.out.2]; rfl, Below.refl _ _⟩
end Go.Proofs.Ytbpkogknmhklbaa
