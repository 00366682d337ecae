/- PointText: the program's walk, at a node of two parts: an implication. -/
import Derived.Test.YtfedipeabbaccaaDoorPtTextTen
namespace Go.Proofs.YtfedipeabbaccaaDoor
open Go.RowKit Go.Deep

set_option maxHeartbeats 2000000 in
set_option maxRecDepth 100000 in
theorem pointText_imp (b o c m k : Nat) (y z : Int) (l r : PTr) (SL SR : ByteArray) (w : World) (h : Points w (.slice (some ⟨b, o, none⟩) (1 + m + k) c) ((6, y, z) :: (flatP l ++ flatP r))) (hl : okP l) (hr : okP r) (hm : (flatP l).length = m) (hk : (flatP r).length = k) (hn : m + k ≤ 1000) (hsl : SL.size ≤ 960) (hsr : SR.size ≤ 960) (x2 : Int) (hy2 : Hid (w.cell? ⟨b, o + (1 + m) * 3, none⟩ = some (.int .i64 x2))) (he2 : Hid ((x2 == 3) = false))
    (hrl : Hid (∀ W, Below w.heap.size w W → Calls Tryd.prog 31 #[.slice (some ⟨b, o + 3, none⟩) m (c - 1)] W fun e w' => e = .returned (.string SL) ∧ Below W.heap.size W w'))
    (hrr : Hid (∀ W, Below w.heap.size w W → Calls Tryd.prog 31 #[.slice (some ⟨b, o + (1 + m) * 3, none⟩) k (c - (1 + m))] W fun e w' => e = .returned (.string SR) ∧ Below W.heap.size W w')) :
    Calls Tryd.prog 31 #[.slice (some ⟨b, o, none⟩) (1 + m + k) c] w fun e w' => e = .returned (.string (ByteArray.mk #[40] ++ SL ++ ByteArray.mk #[62] ++ SR ++ ByteArray.mk #[41])) ∧ Below w.heap.size w w' := by
  have hbl := Lib.hid (fun W (hW : Below w.heap.size w W) => below_bin2 b o c m k 6 y z l r W (h.below hW (Nat.le_refl _)) rfl hl hr hm hk (by omega))
  have hlen : ((6, y, z) :: (flatP l ++ flatP r)).length = 1 + m + k := by simp; omega
  obtain ⟨c', b', o', hv, hc, hcm, hcell⟩ := h.raw (by simp)
  obtain ⟨⟨rfl, rfl⟩, hjunk, rfl⟩ : (b = b' ∧ o = o') ∧ 1 + m + k = ((6, y, z) :: (flatP l ++ flatP r)).length ∧ c = c' := by simpa using hv
  obtain ⟨hc0, hc1, hc2⟩ := point_head hcell.out
  have ha0 := alloc_cell hc0
  have ha1 := alloc_cell hc1
  have ha2 := alloc_cell hc2
  have hm0 : 0 < m := by have := flatP_pos l hl; omega
  have hk0 : 0 < k := by have := flatP_pos r hr; omega
  rw [hlen] at hc
  clear h hcm hcell hlen hv hm hk hjunk
  have hc3 : 1 < c := by omega
  have hc4 : 1 + m < c := by omega
  go_enter Tryd.func31, Tryd.ntmps31
  go_upto_region 1 with fail
  go_cut [3, 4] from 5 to 9 (fun s t wx => ∃ g gb, s = .pointer (some ⟨g, 0, none⟩) ∧ t = .slice (some ⟨gb, 0, none⟩) 2 2 ∧ Hid (Box3 wx g 6 y z) ∧ Hid (Row2 wx gb b o c m k) ∧ Below w.heap.size w wx)
  case first =>
    (first | (go_region_with (first
      | (go_at_call 62; refine (hbl.out _ (by first | exact Below.refl _ _ | exact Below.drew (Below.refl _ _) | exact (Below.refl _ _).alloc (Nat.le_refl _) _ | exact ((Below.refl _ _).alloc (Nat.le_refl _) _).drew)).mono ?_; rintro e w1 ⟨rfl, hrow, b1, hs1, k0, k1, k2, ka0, ka1, ka2⟩; (first | (have hz := box_zeros (w := w) b1.out; obtain ⟨z0, z1, z2, f0, f1, f2⟩ := hz) | skip)))) | fail)
    all_goals
      go_wp2_with fail
      go_meet
      first
        | exact bin_endB z0 z1 z2 hrow (by simp) b1.out
        | exact bin_endA hrow b1.out
  case rest =>
    obtain ⟨g, gb, rfl, rfl, hbx, hrow, hb⟩ := hcut
    obtain ⟨hx0, hx1, hx2⟩ := hbx.out
    obtain ⟨hrow0, hrow1⟩ := hrow.out
    have hrl2 := Lib.hid (fun W (hW : Below wc.heap.size wc W) => hrl.out W (hb.trans (hW.mono hb.size)))
    have hrr2 := Lib.hid (fun W (hW : Below wc.heap.size wc W) => hrr.out W (hb.trans (hW.mono hb.size)))
    clear hc0 hc1 hc2 ha0 ha1 ha2
    have hx2c := keep_cell hb hy2.out
    have e2 := he2.out
    go_wp2_with fail
    have hsgn := sign_imp
    have hq0 : ∀ n : UInt8, (ByteArray.mk #[n]).size = 1 := fun _ => rfl
    have hq1 := add_fact (P := Tryd.prog) (ByteArray.mk #[40]) SL (by rw [hq0]; omega) (by omega)
    have hq2 := add_fact (P := Tryd.prog) (ByteArray.mk #[40] ++ SL) (ByteArray.mk #[62]) (by rw [ByteArray.size_append, hq0]; omega) (by rw [hq0]; omega)
    have hq3 := add_fact (P := Tryd.prog) (ByteArray.mk #[40] ++ SL ++ ByteArray.mk #[62]) SR (by rw [ByteArray.size_append, ByteArray.size_append, hq0, hq0]; omega) (by omega)
    have hq4 := add_fact (P := Tryd.prog) (ByteArray.mk #[40] ++ SL ++ ByteArray.mk #[62] ++ SR) (ByteArray.mk #[41]) (by rw [ByteArray.size_append, ByteArray.size_append, ByteArray.size_append, hq0, hq0]; omega) (by rw [hq0]; omega)
    clear hq0
    have hw0 : IntKind.i64.wrap 0 = 0 := by decide
    have hw1 : IntKind.i64.wrap 1 = 1 := by decide
    have hw2 : IntKind.i64.wrap 2 = 2 := by decide
    have hw3 : IntKind.i64.wrap 3 = 3 := by decide
    generalize hv1 : Value.slice (some ⟨b, o + 3, none⟩) m (c - 1) = v1 at hrow0 hrl2
    generalize hv2 : Value.slice (some ⟨b, o + (1 + m) * 3, none⟩) k (c - (1 + m)) = v2 at hrow1 hrr2
    clear hrl hrr hbl hrow hv1 hv2
    have hbr := Below.refl wc.heap.size wc
    (first | (go_region_held3 (fun W => Below wc.heap.size wc W ∧ W.cell? ⟨g, 0, none⟩ = some (.int .i64 6) ∧ W.cell? ⟨gb, 0, none⟩ = some v1 ∧ W.cell? ⟨gb, 1, none⟩ = some v2) (first | (refine ⟨?_, ?_, ?_, ?_⟩ <;> (first | assumption | (exact Below.drew (by assumption)))) | (obtain ⟨hs1, hs2, hs3, hs4⟩ := ‹Below _ _ _ ∧ _ ∧ _ ∧ _›; exact ⟨keep_step (by assumption) hs1, keep_cell (by assumption) hs2, keep_cell (by assumption) hs3, keep_cell (by assumption) hs4⟩)) (first
      | (go_at_call_of 31 v1; refine (hrl2.out _ (And.left ‹Below wc.heap.size wc _ ∧ _ ∧ _ ∧ _›)).mono ?_; rintro e w' ⟨rfl, hb'⟩)
      | (go_at_call_of 31 v2; refine (hrr2.out _ (And.left ‹Below wc.heap.size wc _ ∧ _ ∧ _ ∧ _›)).mono ?_; rintro e w' ⟨rfl, hb'⟩))) | fail)
    all_goals
      go_wp2_with fail
      go_ret
      exact ⟨rfl, hb.trans ((‹Below wc.heap.size wc _ ∧ _ ∧ _ ∧ _›).1.mono hb.size)⟩
end Go.Proofs.YtfedipeabbaccaaDoor
