/- FreePoints: the parts of a point formula. -/
import Derived.Test.YtfedipeabbaccaaDoorPtTree
import Derived.Deep.RegionWith
namespace Go.Proofs.YtfedipeabbaccaaDoor
open Go.RowKit Go.Deep

theorem points_tail {w : World} {b o c : Nat} {n : Pt} {ns : List Pt} (hcell : ∀ j u, (cellsP (n :: ns))[j]? = some u → w.cell? ⟨b, o + j, none⟩ = some u) (hc : ns.length ≤ c) (hm : ns.length ≤ maxLen) :
    Points w (.slice (some ⟨b, o + 3, none⟩) ns.length c) ns := by
  have := points_piece (i := 1) (m := ns.length) (c := c) (a := some ⟨b, o + 1 * 3, none⟩) hcell hc hm (by simp; omega) (fun _ => rfl)
  simpa using this
theorem points_first {w : World} {b o c : Nat} {n : Pt} {l r : List Pt} (hcell : ∀ j u, (cellsP (n :: (l ++ r)))[j]? = some u → w.cell? ⟨b, o + j, none⟩ = some u) (hc : l.length ≤ c) (hm : l.length ≤ maxLen) :
    Points w (.slice (some ⟨b, o + 3, none⟩) l.length c) l := by
  have := points_piece (i := 1) (m := l.length) (c := c) (a := some ⟨b, o + 1 * 3, none⟩) hcell hc hm (by simp; omega) (fun _ => rfl)
  simpa using this
theorem points_second {w : World} {b o c : Nat} {n : Pt} {l r : List Pt} (hcell : ∀ j u, (cellsP (n :: (l ++ r)))[j]? = some u → w.cell? ⟨b, o + j, none⟩ = some u) (hc : r.length ≤ c) (hm : r.length ≤ maxLen) :
    Points w (.slice (some ⟨b, o + (1 + l.length) * 3, none⟩) r.length c) r := by
  have := points_piece (i := 1 + l.length) (m := r.length) (c := c) (a := some ⟨b, o + (1 + l.length) * 3, none⟩) hcell hc hm (by simp; omega) (fun _ => rfl)
  rw [Nat.add_comm 1, List.drop_succ_cons, List.drop_left, List.take_length] at this
  rw [Nat.add_comm 1]
  exact this

theorem below_leaf (v : Value) (n : Pt) (w : World) (h : Points w v [n]) (h1 : arP n.1 = 0) :
    Calls Tryd.prog 62 #[v] w fun e w' => e = .returned (.slice none 0 0) ∧ w = w' := by
  obtain ⟨x, y, z⟩ := n
  obtain ⟨c, b, o, rfl, hc, hcm, hcell⟩ := h.raw (by simp)
  obtain ⟨hc0, hc1, hc2⟩ := point_head hcell.out
  clear h hcm
  simp only [List.length_cons, List.length_nil] at hc0 hc1 h1 hc ⊢
  go_enter Tryd.func62, Tryd.ntmps62
  go_wp2_with (go_at_call 82; refine (pointParts_any _ _).mono ?_; rintro e w' ⟨rfl, rfl⟩)
  go_ret
  exact ⟨rfl, rfl⟩

theorem below_un (v : Value) (n : Pt) (l : PTr) (w : World) (h : Points w v (n :: flatP l)) (h1 : arP n.1 = 1) (hl : okP l) (hn : (flatP l).length ≤ 1000000) :
    Calls Tryd.prog 62 #[v] w fun e w' => ∃ vl, e = .returned (.slice (some ⟨w.heap.size, 0, none⟩) 1 1) ∧ w'.cell? ⟨w.heap.size, 0, none⟩ = some vl ∧ Points w' vl (flatP l) ∧ Below w.heap.size w w' ∧ w.heap.size < w'.heap.size := by
  obtain ⟨x, y, z⟩ := n
  obtain ⟨c, b, o, rfl, hc, hcm, hcell⟩ := h.raw (by simp)
  obtain ⟨hc0, hc1, hc2⟩ := point_head hcell.out
  have hpn := Lib.hid (points_tail (c := c - 1) hcell.out (by simp at hc; omega) (by unfold maxLen; omega))
  clear h hcm hcell
  have hm0 := flatP_pos l hl
  simp only [List.length_cons] at hc0 hc1 h1 hc ⊢
  generalize (flatP l).length = m at *
  have hc3 : 1 < c := by omega
  go_enter Tryd.func62, Tryd.ntmps62
  go_wp2_with (go_at_call 82; refine (pointParts_any _ _).mono ?_; rintro e w' ⟨rfl, rfl⟩)
  go_ret
  refine ⟨_, rfl, by simp; rfl, ?_, (Below.refl _ _).alloc (Nat.le_refl _) _, by simp⟩
  exact hpn.out.below ((Below.refl _ _).alloc (Nat.le_refl _) _) (Nat.le_refl _)

theorem below_bin (v : Value) (n : Pt) (l r : PTr) (w : World) (h : Points w v (n :: (flatP l ++ flatP r))) (h1 : arP n.1 = 2) (hl : okP l) (hr : okP r) (hn : (flatP l).length + (flatP r).length ≤ 1000000) :
    Calls Tryd.prog 62 #[v] w fun e w' => ∃ vl vr, e = .returned (.slice (some ⟨w.heap.size, 0, none⟩) 2 2) ∧ w'.cell? ⟨w.heap.size, 0, none⟩ = some vl ∧ w'.cell? ⟨w.heap.size, 1, none⟩ = some vr ∧ Points w' vl (flatP l) ∧ Points w' vr (flatP r) ∧ Below w.heap.size w w' ∧ w.heap.size < w'.heap.size := by
  obtain ⟨x, y, z⟩ := n
  have hv := Lib.hid h
  have hlen : ((x, y, z) :: (flatP l ++ flatP r)).length = 1 + (flatP l).length + (flatP r).length := by simp; omega
  have hE := pointEnd_any v _ 1 w h (by omega) (by omega) (by omega)
  rw [show (1 : Int).toNat = 1 from rfl, pEnd_first (x, y, z) l r hl] at hE
  obtain ⟨c, b, o, rfl, hc, hcm, hcell⟩ := h.raw (by simp)
  obtain ⟨hc0, hc1, hc2⟩ := point_head hcell.out
  have hm0 := flatP_pos l hl
  have hk0 := flatP_pos r hr
  replace hE := Lib.hid hE
  have hp1 := Lib.hid (points_first (c := c - 1) hcell.out (by omega) (by unfold maxLen; omega))
  have hp2 := Lib.hid (points_second (c := c - (1 + (flatP l).length)) hcell.out (by omega) (by unfold maxLen; omega))
  clear h hcm hcell hv
  rw [hlen] at hc hE ⊢
  clear hlen
  simp only at hc0 hc1 h1
  generalize (flatP l).length = m at *
  generalize (flatP r).length = k at *
  have hc3 : 1 < c := by omega
  have hc4 : 1 + m < c := by omega
  have hm1 : (1 : Int) ≤ ((1 + m : Nat) : Int) := by omega
  have hm2 : ((1 + m : Nat) : Int) ≤ (c : Int) := by omega
  have hm3 : ((1 + m : Nat) : Int) ≤ ((1 + m + k : Nat) : Int) := by omega
  go_enter Tryd.func62, Tryd.ntmps62
  go_wp2_with (go_at_call 82; refine (pointParts_any _ _).mono ?_; rintro e w' ⟨rfl, rfl⟩)
  refine hE.out.mono ?_
  rintro e w' ⟨rfl, rfl⟩
  go_wp2_with fail
  go_region
  all_goals
    go_wp2_with fail
    go_ret
    refine ⟨_, _, rfl, by simp; rfl, by simp; rfl, ?_, ?_, ((Below.refl _ _).alloc (Nat.le_refl _) _).drew, by simp⟩
    · exact hp1.out.below (((Below.refl _ _).alloc (Nat.le_refl _) _).drew) (Nat.le_refl _)
    · exact hp2.out.below (((Below.refl _ _).alloc (Nat.le_refl _) _).drew) (Nat.le_refl _)

theorem l10Left_any (v : Value) (n : Pt) (l r : PTr) (w : World) (h : Points w v (n :: (flatP l ++ flatP r))) (hall : (n :: (flatP l ++ flatP r)).all ptB = true) (hl : okP l) (hr : okP r) (hn : (flatP l).length + (flatP r).length ≤ 900) :
    Calls Tryd.prog 56 #[v] w fun e w' => (∃ v', e = .returned v' ∧ Points w v' (flatP l)) ∧ w = w' := by
  have hlen : (n :: (flatP l ++ flatP r)).length = 1 + (flatP l).length + (flatP r).length := by simp; omega
  have hE := l10End_any v _ w h hall (by omega) _ 1 (Nat.le_refl _) (by omega)
  rw [pEnd_first n l r hl] at hE
  obtain ⟨c, b, o, rfl, hc, hcm, hcell⟩ := h.raw (by simp)
  have hm0 := flatP_pos l hl
  have hk0 := flatP_pos r hr
  replace hE := Lib.hid hE
  have hp1 := Lib.hid (points_first (c := c - 1) hcell.out (by omega) (by unfold maxLen; omega))
  clear h hcm hcell hall
  rw [hlen] at hc hE ⊢
  clear hlen
  generalize (flatP l).length = m at *
  generalize (flatP r).length = k at *
  have hc3 : 1 < c := by omega
  have hm1 : (1 : Int) ≤ ((1 + m : Nat) : Int) := by omega
  have hm2 : ((1 + m : Nat) : Int) ≤ (c : Int) := by omega
  go_enter Tryd.func56, Tryd.ntmps56
  go_wp2_with fail
  refine hE.out.mono ?_
  rintro e w' ⟨rfl, rfl⟩
  go_wp2_with fail
  go_ret
  refine ⟨⟨_, rfl, ?_⟩, rfl⟩
  have h9 := hp1.out
  show Points _ (.slice (some ⟨b, o + 3, none⟩) (1 + m - 1) (c - 1)) _
  rw [Nat.add_sub_cancel_left]
  exact h9

theorem l10Right_any (v : Value) (n : Pt) (l r : PTr) (w : World) (h : Points w v (n :: (flatP l ++ flatP r))) (hall : (n :: (flatP l ++ flatP r)).all ptB = true) (hl : okP l) (hr : okP r) (hn : (flatP l).length + (flatP r).length ≤ 900) :
    Calls Tryd.prog 57 #[v] w fun e w' => (∃ v', e = .returned v' ∧ Points w v' (flatP r)) ∧ w = w' := by
  have hlen : (n :: (flatP l ++ flatP r)).length = 1 + (flatP l).length + (flatP r).length := by simp; omega
  have hE := l10End_any v _ w h hall (by omega) _ 1 (Nat.le_refl _) (by omega)
  rw [pEnd_first n l r hl] at hE
  obtain ⟨c, b, o, rfl, hc, hcm, hcell⟩ := h.raw (by simp)
  have hm0 := flatP_pos l hl
  have hk0 := flatP_pos r hr
  replace hE := Lib.hid hE
  have hp2 := Lib.hid (points_second (c := c - (1 + (flatP l).length)) hcell.out (by omega) (by unfold maxLen; omega))
  clear h hcm hcell hall
  rw [hlen] at hc hE ⊢
  clear hlen
  generalize (flatP l).length = m at *
  generalize (flatP r).length = k at *
  have hc4 : 1 + m < c := by omega
  have hm3 : ((1 + m : Nat) : Int) ≤ ((1 + m + k : Nat) : Int) := by omega
  go_enter Tryd.func57, Tryd.ntmps57
  go_wp2_with fail
  refine hE.out.mono ?_
  rintro e w' ⟨rfl, rfl⟩
  go_wp2_with fail
  go_ret
  refine ⟨⟨_, rfl, ?_⟩, rfl⟩
  have h9 := hp2.out
  show Points _ (.slice (some ⟨b, o + (1 + m) * 3, none⟩) (1 + m + k - (1 + m)) (c - (1 + m))) _
  rw [Nat.add_sub_cancel_left]
  exact h9
end Go.Proofs.YtfedipeabbaccaaDoor
