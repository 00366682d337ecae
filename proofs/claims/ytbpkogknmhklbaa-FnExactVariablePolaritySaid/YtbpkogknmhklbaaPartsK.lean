/- The pieces of a formula, by the block that they lie in. -/
import Derived.Test.YtbpkogknmhklbaaKids
namespace Go.Proofs.Ytbpkogknmhklbaa
open Go.RowKit

/-- v lies below block K. -/
def inK (K : Nat) : Value → Prop | .slice (some a) _ _ => a.block < K | _ => True
theorem nodes_inK {w w' : World} {K : Nat} {v : Value} {ns : List Nd} (h : Nodes w v ns) (hk : inK K v) (hb : Below K w w') : Nodes w' v ns := by
  obtain ⟨h1, h2, a, c, b, o, rfl, hc, ha, hcell⟩ := h
  refine ⟨h1, h2, a, c, b, o, rfl, hc, ha, fun i u hu => ?_⟩
  have hp : 0 < ns.length := by
    rcases Nat.eq_zero_or_pos ns.length with h0 | h0
    · rw [List.eq_nil_of_length_eq_zero h0] at hu; cases hu
    · exact h0
  obtain rfl := ha hp
  exact (hb.cell (p := ⟨b, o + i, none⟩) hk).trans (hcell i u hu)

theorem part_inK (K : Nat) (v : Value) (ns : List Nd) (i m : Nat) (w : World) (h : Nodes w v ns) (hk : inK K v) (he : partEndL ns i = ((i + m : Nat) : Int)) (hm : 0 < m) (hi : i + m ≤ ns.length) (hn : ns.length ≤ 4611686018427387904) :
    Calls Try.prog 65 #[v, .int .i64 i] w fun e w' => (∃ v', e = .returned v' ∧ Nodes w v' ((ns.drop i).take m) ∧ inK K v') ∧ w = w' := by
  have hv := Lib.hid h
  obtain ⟨c, b, o, rfl, hc, hcm, hcell⟩ := h.raw (by omega)
  have hkb : b < K := hk
  clear h hk
  unfold maxLen at hcm
  have he := Lib.hid he
  go_enter Try.func65, Try.ntmps65
  go_wp2_with fail
  refine (partEnd_any _ ns _ _ hv.out (by omega) (by omega) (by omega)).mono ?_
  rintro e w' ⟨rfl, rfl⟩
  rw [Int.toNat_natCast, he.out]
  go_wp2_with fail
  refine (partEnd_any _ ns _ _ hv.out (by omega) (by omega) (by omega)).mono ?_
  rintro e w' ⟨rfl, rfl⟩
  rw [Int.toNat_natCast, he.out]
  go_wp2_with fail
  go_ret
  refine ⟨⟨_, rfl, ?_, hkb⟩, rfl⟩
  show Nodes _ (.slice (some ⟨b, o + i * 2, none⟩) (i + m - i) (i + m - i)) _
  rw [Nat.add_sub_cancel_left]
  exact nodes_piece hcell.out (Nat.le_refl _) (by unfold maxLen; omega) hi (fun _ => rfl)
theorem first_inK (K : Nat) (v : Value) (n : Nd) (l r : Tr) (w : World) (h : Nodes w v (n :: (flat l ++ flat r))) (hk : inK K v) (hl : okT l) (hn : (flat l).length + (flat r).length ≤ 1000000) :
    Calls Try.prog 95 #[v] w fun e w' => (∃ v', e = .returned v' ∧ Nodes w v' (flat l) ∧ inK K v') ∧ w = w' := by
  have hp := flat_pos l hl
  have hd := Lib.hid (drop_first n (flat l) (flat r))
  have he := Lib.hid (partEnd_first n l r hl)
  go_enter Try.func95, Try.ntmps95
  go_wp2_with fail
  refine (part_inK K v _ 1 (flat l).length _ h hk he.out hp (by simp; omega) (by simp; omega)).mono ?_
  rintro e w' ⟨⟨v', rfl, h', hk'⟩, rfl⟩
  rw [hd.out] at h'
  have h' := Lib.hid h'
  have hk' := Lib.hid hk'
  go_wp2_with fail
  go_ret
  exact ⟨⟨_, rfl, h'.out, hk'.out⟩, rfl⟩
theorem second_inK (K : Nat) (v : Value) (n : Nd) (l r : Tr) (w : World) (h : Nodes w v (n :: (flat l ++ flat r))) (hk : inK K v) (hl : okT l) (hr : okT r) (hn : (flat l).length + (flat r).length ≤ 1000000) :
    Calls Try.prog 96 #[v] w fun e w' => (∃ v', e = .returned v' ∧ Nodes w v' (flat r) ∧ inK K v') ∧ w = w' := by
  have hp := flat_pos r hr
  have hd := Lib.hid (drop_second n (flat l) (flat r))
  have he := Lib.hid (partEnd_second n l r hr)
  have he1 := Lib.hid (partEnd_first n l r hl)
  go_enter Try.func96, Try.ntmps96
  go_wp2_with fail
  refine (partEnd_any v _ 1 _ h (by omega) (by simp; omega) (by simp; omega)).mono ?_
  rintro e w' ⟨rfl, rfl⟩
  rw [show (1 : Int).toNat = 1 from rfl, he1.out]
  go_wp2_with fail
  refine (part_inK K v _ (1 + (flat l).length) (flat r).length _ h hk he.out hp (by simp; omega) (by simp; omega)).mono ?_
  rintro e w' ⟨⟨v', rfl, h', hk'⟩, rfl⟩
  rw [hd.out] at h'
  have h' := Lib.hid h'
  have hk' := Lib.hid hk'
  go_wp2_with fail
  go_ret
  exact ⟨⟨_, rfl, h'.out, hk'.out⟩, rfl⟩
theorem parts_unK (K : Nat) (v : Value) (n : Nd) (l : Tr) (w : World) (h : Nodes w v (n :: flat l)) (hk : inK K v) (h1 : ar n.1 = 1) (hl : okT l) (hn : (flat l).length ≤ 1000000) :
    Calls Try.prog 81 #[v] w fun e w' => ∃ vl, e = .returned (.slice (some ⟨w.heap.size, 0, none⟩) 1 1) ∧ w'.cell? ⟨w.heap.size, 0, none⟩ = some vl ∧ Nodes w' vl (flat l) ∧ inK K vl ∧ Below w.heap.size w w' ∧ w.heap.size < w'.heap.size := by
  obtain ⟨x, y⟩ := n
  have hv := Lib.hid (show Nodes w v ((x, y) :: (flat l ++ flat .nil)) by simpa [flat] using h)
  have hkh := Lib.hid hk
  obtain ⟨c, b, o, rfl, hc, hcm, hcell⟩ := h.raw (by simp)
  obtain ⟨hc0, hc1⟩ := node_head hcell.out
  clear h hcm hcell hk
  simp only at hc0 hc1 h1
  have hpos : 0 < ((x, y) :: flat l).length := by simp
  generalize ((x, y) :: flat l).length = m at *
  go_enter Try.func81, Try.ntmps81
  go_wp2_with (go_at_call 55; refine (partsOf_any _ _).mono ?_; rintro e w' ⟨rfl, rfl⟩)
  refine (first_inK K _ (x, y) l .nil _ hv.out hkh.out hl (by simp [flat]; omega)).mono ?_
  rintro e w' ⟨⟨vl, rfl, hvl, hkl⟩, rfl⟩
  obtain ⟨a1, c1, rfl⟩ := hvl.shape
  have hvl := Lib.hid hvl
  have hkl := Lib.hid hkl
  go_wp2_with fail
  go_ret
  refine ⟨_, rfl, by first | (simp; done) | (simp; rfl), ?_, hkl.out, (Below.refl _ _).alloc (Nat.le_refl _) _, by simp⟩
  exact hvl.out.below ((Below.refl _ _).alloc (Nat.le_refl _) _) (Nat.le_refl _)

theorem parts_binK (K : Nat) (v : Value) (n : Nd) (l r : Tr) (w : World) (h : Nodes w v (n :: (flat l ++ flat r))) (hk : inK K v) (h1 : ar n.1 = 2) (hl : okT l) (hr : okT r) (hn : (flat l).length + (flat r).length ≤ 1000000) :
    Calls Try.prog 81 #[v] w fun e w' => ∃ vl vr, e = .returned (.slice (some ⟨w.heap.size, 0, none⟩) 2 2) ∧ w'.cell? ⟨w.heap.size, 0, none⟩ = some vl ∧ w'.cell? ⟨w.heap.size, 1, none⟩ = some vr ∧ Nodes w' vl (flat l) ∧ inK K vl ∧ Nodes w' vr (flat r) ∧ inK K vr ∧ Below w.heap.size w w' ∧ w.heap.size < w'.heap.size := by
  obtain ⟨x, y⟩ := n
  have hv := Lib.hid h
  have hkh := Lib.hid hk
  obtain ⟨c, b, o, rfl, hc, hcm, hcell⟩ := h.raw (by simp)
  obtain ⟨hc0, hc1⟩ := node_head hcell.out
  clear h hcm hcell hk
  simp only at hc0 hc1 h1
  have hpos : 0 < ((x, y) :: (flat l ++ flat r)).length := by simp
  generalize ((x, y) :: (flat l ++ flat r)).length = m at *
  go_enter Try.func81, Try.ntmps81
  go_wp2_with (go_at_call 55; refine (partsOf_any _ _).mono ?_; rintro e w' ⟨rfl, rfl⟩)
  refine (first_inK K _ (x, y) l r _ hv.out hkh.out hl hn).mono ?_
  rintro e w' ⟨⟨vl, rfl, hvl, hkl⟩, rfl⟩
  obtain ⟨a1, c1, rfl⟩ := hvl.shape
  have hvl := Lib.hid hvl
  have hkl := Lib.hid hkl
  go_wp2_with fail
  refine (second_inK K _ (x, y) l r _ hv.out hkh.out hl hr hn).mono ?_
  rintro e w' ⟨⟨vr, rfl, hvr, hkr⟩, rfl⟩
  obtain ⟨a2, c2, rfl⟩ := hvr.shape
  have hvr := Lib.hid hvr
  have hkr := Lib.hid hkr
  go_wp2_with fail
  go_ret
  refine ⟨_, _, rfl, by first | (simp; done) | (simp; rfl), by first | (simp; done) | (simp; rfl), ?_, hkl.out, ?_, hkr.out, (Below.refl _ _).alloc (Nat.le_refl _) _, by simp⟩
  · exact hvl.out.below ((Below.refl _ _).alloc (Nat.le_refl _) _) (Nat.le_refl _)
  · exact hvr.out.below ((Below.refl _ _).alloc (Nat.le_refl _) _) (Nat.le_refl _)
end Go.Proofs.Ytbpkogknmhklbaa
