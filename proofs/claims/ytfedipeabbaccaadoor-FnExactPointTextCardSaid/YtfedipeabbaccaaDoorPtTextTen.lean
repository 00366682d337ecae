/- PointText: the program's walk, at a node of two parts. -/
import Derived.Test.YtfedipeabbaccaaDoorPtTextNine
import Derived.Deep.RegionHeld3
import Derived.Test.YtfedipeabbaccaaDoorPtTextSeven
namespace Go.Proofs.YtfedipeabbaccaaDoor
open Go.RowKit Go.Deep

def Row2 (w : World) (g b o c m k : Nat) : Prop := w.cell? ⟨g, 0, none⟩ = some (.slice (some ⟨b, o + 3, none⟩) m (c - 1)) ∧ w.cell? ⟨g, 1, none⟩ = some (.slice (some ⟨b, o + (1 + m) * 3, none⟩) k (c - (1 + m)))
theorem below_bin2 (b o c m k : Nat) (x y z : Int) (l r : PTr) (w : World) (h : Points w (.slice (some ⟨b, o, none⟩) (1 + m + k) c) ((x, y, z) :: (flatP l ++ flatP r))) (h1 : arP x = 2) (hl : okP l) (hr : okP r) (hm : (flatP l).length = m) (hk : (flatP r).length = k) (hn : m + k ≤ 1000000) :
    Calls Tryd.prog 62 #[.slice (some ⟨b, o, none⟩) (1 + m + k) c] w fun e w' => e = .returned (.slice (some ⟨w.heap.size, 0, none⟩) 2 2) ∧ Hid (Row2 w' w.heap.size b o c m k) ∧ Hid (Below w.heap.size w w') ∧ w.heap.size < w'.heap.size ∧
      w'.cell? ⟨b, o, none⟩ = some (.int .i64 x) ∧ w'.cell? ⟨b, o + 1, none⟩ = some (.int .i64 y) ∧ w'.cell? ⟨b, o + 2, none⟩ = some (.int .i64 z) ∧ (∀ ob, (w'.alloc ob).cell? ⟨b, o, none⟩ = some (.int .i64 x)) ∧ (∀ ob, (w'.alloc ob).cell? ⟨b, o + 1, none⟩ = some (.int .i64 y)) ∧ (∀ ob, (w'.alloc ob).cell? ⟨b, o + 2, none⟩ = some (.int .i64 z)) := by
  have hlen : ((x, y, z) :: (flatP l ++ flatP r)).length = 1 + m + k := by simp; omega
  have hE := pointEnd_any _ _ 1 w h (by omega) (by omega) (by omega)
  rw [show (1 : Int).toNat = 1 from rfl, pEnd_first (x, y, z) l r hl, hm] at hE
  obtain ⟨c', b', o', hv, hc, hcm, hcell⟩ := h.raw (by simp)
  obtain ⟨⟨rfl, rfl⟩, hjunk, rfl⟩ : (b = b' ∧ o = o') ∧ 1 + m + k = ((x, y, z) :: (flatP l ++ flatP r)).length ∧ c = c' := by simpa using hv
  obtain ⟨hc0, hc1, hc2⟩ := point_head hcell.out
  have hm0 : 0 < m := by have := flatP_pos l hl; omega
  have hk0 : 0 < k := by have := flatP_pos r hr; omega
  replace hE := Lib.hid hE
  rw [hlen] at hc
  clear h hcm hcell hlen hv hm hk hjunk
  have hc3 : 1 < c := by omega
  have hc4 : 1 + m < c := by omega
  have hm1 : (1 : Int) ≤ ((1 + m : Nat) : Int) := by omega
  have hm2 : ((1 + m : Nat) : Int) ≤ (c : Int) := by omega
  have hm3 : ((1 + m : Nat) : Int) ≤ ((1 + m + k : Nat) : Int) := by omega
  have k0 := Lib.hid hc0
  have k1 := Lib.hid hc1
  have k2 := Lib.hid hc2
  go_enter Tryd.func62, Tryd.ntmps62
  go_wp2_with (go_at_call 82; refine (pointParts_any _ _).mono ?_; rintro e w' ⟨rfl, rfl⟩)
  refine hE.out.mono ?_
  rintro e w' ⟨rfl, rfl⟩
  go_wp2_with fail
  go_region
  all_goals
    go_wp2_with fail
    go_ret
    have hb : ∀ ob, Below w.heap.size w (w.alloc ob).drew := fun ob => ((Below.refl _ _).alloc (Nat.le_refl _) ob).drew
    refine ⟨rfl, ⟨?_, ?_⟩, hb _, by simp, keep_cell (hb _) k0.out, keep_cell (hb _) k1.out, keep_cell (hb _) k2.out, alloc_cell (keep_cell (hb _) k0.out), alloc_cell (keep_cell (hb _) k1.out), alloc_cell (keep_cell (hb _) k2.out)⟩
    · show (w.alloc _).cell? _ = _
      rw [World.cell?_alloc_at _ _ _ _ rfl]
      rfl
    · show (w.alloc _).cell? _ = _
      rw [World.cell?_alloc_at _ _ _ _ rfl]
      rfl

theorem bin_endA {w w1 : World} {x y z : Int} {T : TypeId} {b o c m k : Nat} (hrow : Hid (Row2 w1 w.drew.heap.size b o c m k)) (hb : Below w.drew.heap.size w.drew w1) :
    ∃ g gb, Value.pointer (some ⟨w1.heap.size, 0, none⟩) = .pointer (some ⟨g, 0, none⟩) ∧ Value.slice (some ⟨w.heap.size, 0, none⟩) 2 2 = .slice (some ⟨gb, 0, none⟩) 2 2 ∧ Hid (Box3 (w1.alloc (.cells #[.int .i64 x, .int .i64 y, .int .i64 z] T)) g x y z) ∧
      Hid (Row2 (w1.alloc (.cells #[.int .i64 x, .int .i64 y, .int .i64 z] T)) gb b o c m k) ∧ Below w.heap.size w (w1.alloc (.cells #[.int .i64 x, .int .i64 y, .int .i64 z] T)) :=
  ⟨_, _, rfl, rfl, box3_alloc _ _ _ _ _, ⟨keep_cell ((Below.refl _ _).alloc (Nat.le_refl _) _) hrow.out.1, keep_cell ((Below.refl _ _).alloc (Nat.le_refl _) _) hrow.out.2⟩, keep_step ((Below.refl _ _).alloc (Nat.le_refl _) _) (keep_step hb (Below.refl _ _).drew)⟩
theorem bin_endB {w w1 : World} {x y z : Int} {T : TypeId} {b o c m k : Nat} {gb' : Nat} (h0 : w1.cell? ⟨w.heap.size, 0, none⟩ = some (.int .i64 0)) (h1 : w1.cell? ⟨w.heap.size, 1, none⟩ = some (.int .i64 0)) (h2 : w1.cell? ⟨w.heap.size, 2, none⟩ = some (.int .i64 0))
    (hrow : Hid (Row2 w1 gb' b o c m k)) (hgb : gb' = w.heap.size + 1) (hb : Below (w.alloc (.cells #[.int .i64 0, .int .i64 0, .int .i64 0] T)).drew.heap.size (w.alloc (.cells #[.int .i64 0, .int .i64 0, .int .i64 0] T)).drew w1) :
    ∃ g gb, Value.pointer (some ⟨w.heap.size, 0, none⟩) = .pointer (some ⟨g, 0, none⟩) ∧ Value.slice (some ⟨w.heap.size + 1, 0, none⟩) 2 2 = .slice (some ⟨gb, 0, none⟩) 2 2 ∧
      Hid (Box3 (((w1.setCell ⟨w.heap.size, 0, none⟩ (.int .i64 x)).setCell ⟨w.heap.size, 1, none⟩ (.int .i64 y)).setCell ⟨w.heap.size, 2, none⟩ (.int .i64 z)) g x y z) ∧
      Hid (Row2 (((w1.setCell ⟨w.heap.size, 0, none⟩ (.int .i64 x)).setCell ⟨w.heap.size, 1, none⟩ (.int .i64 y)).setCell ⟨w.heap.size, 2, none⟩ (.int .i64 z)) gb b o c m k) ∧
      Below w.heap.size w (((w1.setCell ⟨w.heap.size, 0, none⟩ (.int .i64 x)).setCell ⟨w.heap.size, 1, none⟩ (.int .i64 y)).setCell ⟨w.heap.size, 2, none⟩ (.int .i64 z)) := by
  subst hgb
  exact ⟨_, _, rfl, rfl, Lib.hid (box3_set _ _ _ h0 h1 h2), ⟨far3 (by omega) hrow.out.1, far3 (by omega) hrow.out.2⟩, below3 (keep_step hb ((Below.refl _ _).alloc (Nat.le_refl _) _).drew) (Nat.le_refl _)⟩

theorem add_fact {P : Program} (a b : ByteArray) (ha : a.size ≤ 3000) (hb : b.size ≤ 3000) : ∀ W : World, (Op.stringOp .add a b).run P W = .ok (.string (a ++ b)) W := fun W => run_string_add_sum W a b (by omega)
theorem sign_at (i : Nat) (hi : i < 3) (W : World) : (Instr.slice 9 (.string (ByteArray.mk #[38, 124, 62])) (some (.int .i64 (i : Int))) (some (.int .i64 ((i : Int) + 1))) none).run Tryd.prog W = .ok (.string ((ByteArray.mk #[38, 124, 62]).extract i (i + 1))) W := by
  have hz : (ByteArray.mk #[38, 124, 62]).size = 3 := rfl
  have h9 := run_slice_string (P := Tryd.prog) W 9 (ByteArray.mk #[38, 124, 62]) .i64 .i64 (i : Int) ((i : Int) + 1) Tryd.underlying9 (by omega) (by omega) (by rw [hz]; omega)
  rw [h9]
  rfl
theorem sign_and : ∀ W : World, (Instr.slice 9 (.string (ByteArray.mk #[38, 124, 62])) (some (.int .i64 0)) (some (.int .i64 1)) none).run Tryd.prog W = .ok (.string (ByteArray.mk #[38])) W := fun W => sign_at 0 (by omega) W
theorem sign_or : ∀ W : World, (Instr.slice 9 (.string (ByteArray.mk #[38, 124, 62])) (some (.int .i64 1)) (some (.int .i64 2)) none).run Tryd.prog W = .ok (.string (ByteArray.mk #[124])) W := fun W => sign_at 1 (by omega) W
theorem sign_imp : ∀ W : World, (Instr.slice 9 (.string (ByteArray.mk #[38, 124, 62])) (some (.int .i64 2)) (some (.int .i64 3)) none).run Tryd.prog W = .ok (.string (ByteArray.mk #[62])) W := fun W => sign_at 2 (by omega) W
set_option maxHeartbeats 2000000 in
set_option maxRecDepth 100000 in
theorem pointText_and (b o c m k : Nat) (y z : Int) (l r : PTr) (SL SR : ByteArray) (w : World) (h : Points w (.slice (some ⟨b, o, none⟩) (1 + m + k) c) ((4, y, z) :: (flatP l ++ flatP r))) (hl : okP l) (hr : okP r) (hm : (flatP l).length = m) (hk : (flatP r).length = k) (hn : m + k ≤ 1000) (hsl : SL.size ≤ 960) (hsr : SR.size ≤ 960)
    (hrl : Hid (∀ W, Below w.heap.size w W → Calls Tryd.prog 31 #[.slice (some ⟨b, o + 3, none⟩) m (c - 1)] W fun e w' => e = .returned (.string SL) ∧ Below W.heap.size W w'))
    (hrr : Hid (∀ W, Below w.heap.size w W → Calls Tryd.prog 31 #[.slice (some ⟨b, o + (1 + m) * 3, none⟩) k (c - (1 + m))] W fun e w' => e = .returned (.string SR) ∧ Below W.heap.size W w')) :
    Calls Tryd.prog 31 #[.slice (some ⟨b, o, none⟩) (1 + m + k) c] w fun e w' => e = .returned (.string (ByteArray.mk #[40] ++ SL ++ ByteArray.mk #[38] ++ SR ++ ByteArray.mk #[41])) ∧ Below w.heap.size w w' := by
  have hbl := Lib.hid (fun W (hW : Below w.heap.size w W) => below_bin2 b o c m k 4 y z l r W (h.below hW (Nat.le_refl _)) rfl hl hr hm hk (by omega))
  have hlen : ((4, y, z) :: (flatP l ++ flatP r)).length = 1 + m + k := by simp; omega
  obtain ⟨c', b', o', hv, hc, hcm, hcell⟩ := h.raw (by simp)
  obtain ⟨⟨rfl, rfl⟩, hjunk, rfl⟩ : (b = b' ∧ o = o') ∧ 1 + m + k = ((4, y, z) :: (flatP l ++ flatP r)).length ∧ c = c' := by simpa using hv
  obtain ⟨hc0, hc1, hc2⟩ := point_head hcell.out
  have ha0 := alloc_cell hc0
  have ha1 := alloc_cell hc1
  have ha2 := alloc_cell hc2
  have hm0 : 0 < m := by have := flatP_pos l hl; omega
  have hk0 : 0 < k := by have := flatP_pos r hr; omega
  rw [hlen] at hc
  clear h hcm hcell hlen hv hm hk hjunk
  have hc3 : 1 < c := by omega
  have hc4 : 1 + m < c := by omega
  go_enter Tryd.func31, Tryd.ntmps31
  go_upto_region 1 with fail
  go_cut [3, 4] from 5 to 9 (fun s t wx => ∃ g gb, s = .pointer (some ⟨g, 0, none⟩) ∧ t = .slice (some ⟨gb, 0, none⟩) 2 2 ∧ Hid (Box3 wx g 4 y z) ∧ Hid (Row2 wx gb b o c m k) ∧ Below w.heap.size w wx)
  case first =>
    (first | (go_region_with (first
      | (go_at_call 62; refine (hbl.out _ (by first | exact Below.refl _ _ | exact Below.drew (Below.refl _ _) | exact (Below.refl _ _).alloc (Nat.le_refl _) _ | exact ((Below.refl _ _).alloc (Nat.le_refl _) _).drew)).mono ?_; rintro e w1 ⟨rfl, hrow, b1, hs1, k0, k1, k2, ka0, ka1, ka2⟩; (first | (have hz := box_zeros (w := w) b1.out; obtain ⟨z0, z1, z2, f0, f1, f2⟩ := hz) | skip)))) | fail)
    all_goals
      go_wp2_with fail
      go_meet
      first
        | exact bin_endB z0 z1 z2 hrow (by simp) b1.out
        | exact bin_endA hrow b1.out
  case rest =>
    obtain ⟨g, gb, rfl, rfl, hbx, hrow, hb⟩ := hcut
    obtain ⟨hx0, hx1, hx2⟩ := hbx.out
    obtain ⟨hrow0, hrow1⟩ := hrow.out
    have hrl2 := Lib.hid (fun W (hW : Below wc.heap.size wc W) => hrl.out W (hb.trans (hW.mono hb.size)))
    have hrr2 := Lib.hid (fun W (hW : Below wc.heap.size wc W) => hrr.out W (hb.trans (hW.mono hb.size)))
    clear hc0 hc1 hc2 ha0 ha1 ha2
    go_wp2_with fail
    have hsgn := sign_and
    have hq0 : ∀ n : UInt8, (ByteArray.mk #[n]).size = 1 := fun _ => rfl
    have hq1 := add_fact (P := Tryd.prog) (ByteArray.mk #[40]) SL (by rw [hq0]; omega) (by omega)
    have hq2 := add_fact (P := Tryd.prog) (ByteArray.mk #[40] ++ SL) (ByteArray.mk #[38]) (by rw [ByteArray.size_append, hq0]; omega) (by rw [hq0]; omega)
    have hq3 := add_fact (P := Tryd.prog) (ByteArray.mk #[40] ++ SL ++ ByteArray.mk #[38]) SR (by rw [ByteArray.size_append, ByteArray.size_append, hq0, hq0]; omega) (by omega)
    have hq4 := add_fact (P := Tryd.prog) (ByteArray.mk #[40] ++ SL ++ ByteArray.mk #[38] ++ SR) (ByteArray.mk #[41]) (by rw [ByteArray.size_append, ByteArray.size_append, ByteArray.size_append, hq0, hq0]; omega) (by rw [hq0]; omega)
    clear hq0
    have hw0 : IntKind.i64.wrap 0 = 0 := by decide
    have hw1 : IntKind.i64.wrap 1 = 1 := by decide
    have hw2 : IntKind.i64.wrap 2 = 2 := by decide
    have hw3 : IntKind.i64.wrap 3 = 3 := by decide
    generalize hv1 : Value.slice (some ⟨b, o + 3, none⟩) m (c - 1) = v1 at hrow0 hrl2
    generalize hv2 : Value.slice (some ⟨b, o + (1 + m) * 3, none⟩) k (c - (1 + m)) = v2 at hrow1 hrr2
    clear hrl hrr hbl hrow hv1 hv2
    have hbr := Below.refl wc.heap.size wc
    (first | (go_region_held3 (fun W => Below wc.heap.size wc W ∧ W.cell? ⟨g, 0, none⟩ = some (.int .i64 4) ∧ W.cell? ⟨gb, 0, none⟩ = some v1 ∧ W.cell? ⟨gb, 1, none⟩ = some v2) (first | (refine ⟨?_, ?_, ?_, ?_⟩ <;> (first | assumption | (exact Below.drew (by assumption)))) | (obtain ⟨hs1, hs2, hs3, hs4⟩ := ‹Below _ _ _ ∧ _ ∧ _ ∧ _›; exact ⟨keep_step (by assumption) hs1, keep_cell (by assumption) hs2, keep_cell (by assumption) hs3, keep_cell (by assumption) hs4⟩)) (first
      | (go_at_call_of 31 v1; refine (hrl2.out _ (And.left ‹Below wc.heap.size wc _ ∧ _ ∧ _ ∧ _›)).mono ?_; rintro e w' ⟨rfl, hb'⟩)
      | (go_at_call_of 31 v2; refine (hrr2.out _ (And.left ‹Below wc.heap.size wc _ ∧ _ ∧ _ ∧ _›)).mono ?_; rintro e w' ⟨rfl, hb'⟩))) | fail)
    all_goals
      go_wp2_with fail
      go_ret
      exact ⟨rfl, hb.trans ((‹Below wc.heap.size wc _ ∧ _ ∧ _ ∧ _›).1.mono hb.size)⟩
end Go.Proofs.YtfedipeabbaccaaDoor
