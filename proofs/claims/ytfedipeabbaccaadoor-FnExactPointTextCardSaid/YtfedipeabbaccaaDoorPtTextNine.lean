/- PointText: the program's walk, at a quantifier. -/
import Derived.Test.YtfedipeabbaccaaDoorPtTextEight
namespace Go.Proofs.YtfedipeabbaccaaDoor
open Go.RowKit Go.Deep

/-- The box was made ahead of the call. -/
theorem box_zero {w W w1 : World} (h : Below W.heap.size W w1) (h0 : W.cell? ⟨w.heap.size, 0, none⟩ = some (.int .i64 0)) (h1 : W.cell? ⟨w.heap.size, 1, none⟩ = some (.int .i64 0)) (h2 : W.cell? ⟨w.heap.size, 2, none⟩ = some (.int .i64 0))
    (f0 : W.frozen? ⟨w.heap.size, 0, none⟩ = false) (f1 : W.frozen? ⟨w.heap.size, 1, none⟩ = false) (f2 : W.frozen? ⟨w.heap.size, 2, none⟩ = false) :
    w1.cell? ⟨w.heap.size, 0, none⟩ = some (.int .i64 0) ∧ w1.cell? ⟨w.heap.size, 1, none⟩ = some (.int .i64 0) ∧ w1.cell? ⟨w.heap.size, 2, none⟩ = some (.int .i64 0) ∧
    w1.frozen? ⟨w.heap.size, 0, none⟩ = false ∧ w1.frozen? ⟨w.heap.size, 1, none⟩ = false ∧ w1.frozen? ⟨w.heap.size, 2, none⟩ = false := by
  have hb := World.block_lt_of_cell? W _ h0
  exact ⟨keep_cell h h0, keep_cell h h1, keep_cell h h2, (h.frozen (p := ⟨w.heap.size, 0, none⟩) hb).trans f0, (h.frozen (p := ⟨w.heap.size, 1, none⟩) hb).trans f1, (h.frozen (p := ⟨w.heap.size, 2, none⟩) hb).trans f2⟩
theorem box_zeros {w w1 : World} {T : TypeId} (h : Below (w.alloc (.cells #[.int .i64 0, .int .i64 0, .int .i64 0] T)).drew.heap.size (w.alloc (.cells #[.int .i64 0, .int .i64 0, .int .i64 0] T)).drew w1) :
    w1.cell? ⟨w.heap.size, 0, none⟩ = some (.int .i64 0) ∧ w1.cell? ⟨w.heap.size, 1, none⟩ = some (.int .i64 0) ∧ w1.cell? ⟨w.heap.size, 2, none⟩ = some (.int .i64 0) ∧
    w1.frozen? ⟨w.heap.size, 0, none⟩ = false ∧ w1.frozen? ⟨w.heap.size, 1, none⟩ = false ∧ w1.frozen? ⟨w.heap.size, 2, none⟩ = false := by
  refine box_zero h ?_ ?_ ?_ ?_ ?_ ?_
  · show (w.alloc _).cell? _ = _; rw [World.cell?_alloc_at _ _ _ _ rfl]; rfl
  · show (w.alloc _).cell? _ = _; rw [World.cell?_alloc_at _ _ _ _ rfl]; rfl
  · show (w.alloc _).cell? _ = _; rw [World.cell?_alloc_at _ _ _ _ rfl]; rfl
  · show (w.alloc _).frozen? _ = _; rw [World.frozen?_alloc_at _ _ _ _ rfl]
  · show (w.alloc _).frozen? _ = _; rw [World.frozen?_alloc_at _ _ _ _ rfl]
  · show (w.alloc _).frozen? _ = _; rw [World.frozen?_alloc_at _ _ _ _ rfl]
theorem box3_set {w1 : World} {g : Nat} {a0 a1 a2 : Value} (x y z : Int) (h0 : w1.cell? ⟨g, 0, none⟩ = some a0) (h1 : w1.cell? ⟨g, 1, none⟩ = some a1) (h2 : w1.cell? ⟨g, 2, none⟩ = some a2) :
    Box3 (((w1.setCell ⟨g, 0, none⟩ (.int .i64 x)).setCell ⟨g, 1, none⟩ (.int .i64 y)).setCell ⟨g, 2, none⟩ (.int .i64 z)) g x y z := by
  have n01 : (⟨g, 1, none⟩ : Addr) ≠ ⟨g, 0, none⟩ := by simp
  have n02 : (⟨g, 2, none⟩ : Addr) ≠ ⟨g, 0, none⟩ := by simp
  have n12 : (⟨g, 2, none⟩ : Addr) ≠ ⟨g, 1, none⟩ := by simp
  refine ⟨?_, ?_, ?_⟩
  · rw [World.cell?_setCell_other _ _ _ _ n02, World.cell?_setCell_other _ _ _ _ n01]
    exact World.cell?_setCell_same _ _ _ h0
  · rw [World.cell?_setCell_other _ _ _ _ n12]
    exact World.cell?_setCell_same _ _ _ (u := a1) (by rw [World.cell?_setCell_other _ _ _ _ n01.symm]; exact h1)
  · exact World.cell?_setCell_same _ _ _ (u := a2) (by rw [World.cell?_setCell_other _ _ _ _ n12.symm, World.cell?_setCell_other _ _ _ _ n02.symm]; exact h2)
theorem box3_alloc (w1 : World) (x y z : Int) (T : TypeId) : Hid (Box3 (w1.alloc (.cells #[.int .i64 x, .int .i64 y, .int .i64 z] T)) w1.heap.size x y z) := by
  refine ⟨?_, ?_, ?_⟩
  · rw [World.cell?_alloc_at _ _ _ _ rfl]; rfl
  · rw [World.cell?_alloc_at _ _ _ _ rfl]; rfl
  · rw [World.cell?_alloc_at _ _ _ _ rfl]; rfl
theorem far3 {w1 : World} {g gb j : Nat} {u a b c : Value} (hne : g ≠ gb) (h : w1.cell? ⟨gb, j, none⟩ = some u) : (((w1.setCell ⟨g, 0, none⟩ a).setCell ⟨g, 1, none⟩ b).setCell ⟨g, 2, none⟩ c).cell? ⟨gb, j, none⟩ = some u := by
  rw [World.cell?_setCell_far _ _ _ _ hne, World.cell?_setCell_far _ _ _ _ hne, World.cell?_setCell_far _ _ _ _ hne]
  exact h
theorem below3 {w w1 : World} {g : Nat} {a b c : Value} (h : Below w.heap.size w w1) (hg : w.heap.size ≤ g) : Below w.heap.size w (((w1.setCell ⟨g, 0, none⟩ a).setCell ⟨g, 1, none⟩ b).setCell ⟨g, 2, none⟩ c) :=
  ((h.setCell hg _).setCell hg _).setCell hg _

theorem un_endA {w w1 : World} {x y z : Int} {T : TypeId} {vl : Value} (hrow : Hid (w1.cell? ⟨w.drew.heap.size, 0, none⟩ = some vl)) (hb : Below w.drew.heap.size w.drew w1) :
    ∃ g gb, Value.pointer (some ⟨w1.heap.size, 0, none⟩) = .pointer (some ⟨g, 0, none⟩) ∧ Value.slice (some ⟨w.heap.size, 0, none⟩) 1 1 = .slice (some ⟨gb, 0, none⟩) 1 1 ∧ Hid (Box3 (w1.alloc (.cells #[.int .i64 x, .int .i64 y, .int .i64 z] T)) g x y z) ∧
      Hid ((w1.alloc (.cells #[.int .i64 x, .int .i64 y, .int .i64 z] T)).cell? ⟨gb, 0, none⟩ = some vl) ∧ Below w.heap.size w (w1.alloc (.cells #[.int .i64 x, .int .i64 y, .int .i64 z] T)) :=
  ⟨_, _, rfl, rfl, box3_alloc _ _ _ _ _, keep_cell ((Below.refl _ _).alloc (Nat.le_refl _) _) hrow.out, keep_step ((Below.refl _ _).alloc (Nat.le_refl _) _) (keep_step hb (Below.refl _ _).drew)⟩
theorem un_endB {w w1 : World} {x y z : Int} {T : TypeId} {vl : Value} {gb' : Nat} (h0 : w1.cell? ⟨w.heap.size, 0, none⟩ = some (.int .i64 0)) (h1 : w1.cell? ⟨w.heap.size, 1, none⟩ = some (.int .i64 0)) (h2 : w1.cell? ⟨w.heap.size, 2, none⟩ = some (.int .i64 0))
    (hrow : Hid (w1.cell? ⟨gb', 0, none⟩ = some vl)) (hgb : gb' = w.heap.size + 1) (hb : Below (w.alloc (.cells #[.int .i64 0, .int .i64 0, .int .i64 0] T)).drew.heap.size (w.alloc (.cells #[.int .i64 0, .int .i64 0, .int .i64 0] T)).drew w1) :
    ∃ g gb, Value.pointer (some ⟨w.heap.size, 0, none⟩) = .pointer (some ⟨g, 0, none⟩) ∧ Value.slice (some ⟨w.heap.size + 1, 0, none⟩) 1 1 = .slice (some ⟨gb, 0, none⟩) 1 1 ∧
      Hid (Box3 (((w1.setCell ⟨w.heap.size, 0, none⟩ (.int .i64 x)).setCell ⟨w.heap.size, 1, none⟩ (.int .i64 y)).setCell ⟨w.heap.size, 2, none⟩ (.int .i64 z)) g x y z) ∧
      Hid ((((w1.setCell ⟨w.heap.size, 0, none⟩ (.int .i64 x)).setCell ⟨w.heap.size, 1, none⟩ (.int .i64 y)).setCell ⟨w.heap.size, 2, none⟩ (.int .i64 z)).cell? ⟨gb, 0, none⟩ = some vl) ∧
      Below w.heap.size w (((w1.setCell ⟨w.heap.size, 0, none⟩ (.int .i64 x)).setCell ⟨w.heap.size, 1, none⟩ (.int .i64 y)).setCell ⟨w.heap.size, 2, none⟩ (.int .i64 z)) := by
  subst hgb
  exact ⟨_, _, rfl, rfl, Lib.hid (box3_set _ _ _ h0 h1 h2), far3 (by omega) hrow.out, below3 (keep_step hb ((Below.refl _ _).alloc (Nat.le_refl _) _).drew) (Nat.le_refl _)⟩

theorem below_un2 (b o c m : Nat) (x y z : Int) (w : World) (_hc : m + 1 ≤ c) (hc3 : 1 < c) (hc0 : w.cell? ⟨b, o, none⟩ = some (.int .i64 x)) (hc1 : w.cell? ⟨b, o + 1, none⟩ = some (.int .i64 y)) (hc2 : w.cell? ⟨b, o + 2, none⟩ = some (.int .i64 z)) (h1 : arP x = 1) :
    Calls Tryd.prog 62 #[.slice (some ⟨b, o, none⟩) (m + 1) c] w fun e w' => e = .returned (.slice (some ⟨w.heap.size, 0, none⟩) 1 1) ∧ Hid (w'.cell? ⟨w.heap.size, 0, none⟩ = some (.slice (some ⟨b, o + 3, none⟩) m (c - 1))) ∧ Hid (Below w.heap.size w w') ∧ w.heap.size < w'.heap.size ∧
      w'.cell? ⟨b, o, none⟩ = some (.int .i64 x) ∧ w'.cell? ⟨b, o + 1, none⟩ = some (.int .i64 y) ∧ w'.cell? ⟨b, o + 2, none⟩ = some (.int .i64 z) ∧ (∀ ob, (w'.alloc ob).cell? ⟨b, o, none⟩ = some (.int .i64 x)) ∧ (∀ ob, (w'.alloc ob).cell? ⟨b, o + 1, none⟩ = some (.int .i64 y)) ∧ (∀ ob, (w'.alloc ob).cell? ⟨b, o + 2, none⟩ = some (.int .i64 z)) := by
  have k0 := Lib.hid hc0
  have k1 := Lib.hid hc1
  have k2 := Lib.hid hc2
  go_enter Tryd.func62, Tryd.ntmps62
  go_wp2_with (go_at_call 82; refine (pointParts_any _ _).mono ?_; rintro e w' ⟨rfl, rfl⟩)
  go_ret
  have hb : ∀ ob, Below w.heap.size w (w.alloc ob) := fun ob => (Below.refl _ _).alloc (Nat.le_refl _) ob
  exact ⟨rfl, by show _ = _; simp, hb _, by simp, keep_cell (hb _) k0.out, keep_cell (hb _) k1.out, keep_cell (hb _) k2.out, alloc_cell (keep_cell (hb _) k0.out), alloc_cell (keep_cell (hb _) k1.out), alloc_cell (keep_cell (hb _) k2.out)⟩

set_option maxHeartbeats 1000000 in
set_option maxRecDepth 100000 in
theorem pointText_all (b o c m : Nat) (y z : Int) (T : ByteArray) (w : World) (_hc : m + 1 ≤ c) (hc3 : 1 < c) (hc0 : w.cell? ⟨b, o, none⟩ = some (.int .i64 7)) (hc1 : w.cell? ⟨b, o + 1, none⟩ = some (.int .i64 y)) (hc2 : w.cell? ⟨b, o + 2, none⟩ = some (.int .i64 z)) (y0 : 0 ≤ y) (y1 : y ≤ 9) (hT : T.size ≤ 4000)
    (hrec : Hid (∀ W, Below w.heap.size w W → Calls Tryd.prog 31 #[.slice (some ⟨b, o + 3, none⟩) m (c - 1)] W fun e w' => e = .returned (.string T) ∧ Below W.heap.size W w')) :
    Calls Tryd.prog 31 #[.slice (some ⟨b, o, none⟩) (m + 1) c] w fun e w' => e = .returned (.string (ByteArray.mk #[65] ++ dec1 y ++ T)) ∧ Below w.heap.size w w' := by
  have hbl := Lib.hid (fun W (hW : Below w.heap.size w W) => below_un2 b o c m 7 y z W _hc hc3 (keep_cell hW hc0) (keep_cell hW hc1) (keep_cell hW hc2) rfl)
  have hd1 := Lib.hid (fun W => decimal_any y y0 y1 W)
  have s1 : (dec1 y).size ≤ 1 := Nat.le_refl _
  have ha0 := alloc_cell hc0
  have ha1 := alloc_cell hc1
  have ha2 := alloc_cell hc2
  clear y0 y1
  generalize dec1 y = S at *
  go_enter Tryd.func31, Tryd.ntmps31
  go_upto_region 1 with fail
  go_cut [3, 4] from 5 to 9 (fun s t wx => ∃ g gb, s = .pointer (some ⟨g, 0, none⟩) ∧ t = .slice (some ⟨gb, 0, none⟩) 1 1 ∧ Hid (Box3 wx g 7 y z) ∧ Hid (wx.cell? ⟨gb, 0, none⟩ = some (.slice (some ⟨b, o + 3, none⟩) m (c - 1))) ∧ Below w.heap.size w wx)
  case first =>
    (first | (go_region_with (first
      | (go_at_call 62; refine (hbl.out _ (by first | exact Below.refl _ _ | exact Below.drew (Below.refl _ _) | exact (Below.refl _ _).alloc (Nat.le_refl _) _ | exact ((Below.refl _ _).alloc (Nat.le_refl _) _).drew)).mono ?_; rintro e w1 ⟨rfl, hrow, b1, hs1, k0, k1, k2, ka0, ka1, ka2⟩; (first | (have hz := box_zeros (w := w) b1.out; obtain ⟨z0, z1, z2, f0, f1, f2⟩ := hz) | skip)))) | fail)
    all_goals
      go_wp2_with fail
      go_meet
      first
        | exact un_endB (vl := .slice (some ⟨b, o + 3, none⟩) m (c - 1)) z0 z1 z2 hrow (by simp) b1.out
        | exact un_endA (vl := .slice (some ⟨b, o + 3, none⟩) m (c - 1)) hrow b1.out
  case rest =>
    obtain ⟨g, gb, rfl, rfl, hbx, hrow, hb⟩ := hcut
    obtain ⟨hx0, hx1, hx2⟩ := hbx.out
    have hrow := hrow.out
    have hrec2 := Lib.hid (fun W (hW : Below wc.heap.size wc W) => hrec.out W (hb.trans (hW.mono hb.size)))
    go_wp2_with fail
    go_region_with (first
      | (go_at_call 63; refine (hd1.out _).mono ?_; rintro e w' ⟨rfl, rfl⟩)
      | (go_at_call 31; refine (hrec2.out _ (by first | exact Below.refl _ _ | exact Below.drew (Below.refl _ _) | exact below_drewN' _ _)).mono ?_; rintro e w3 ⟨rfl, b3⟩; have B3 : Below wc.heap.size wc w3 := ⟨b3.os, b3.tape, b3.output, b3.size, b3.block⟩))
    all_goals
      go_wp2_with fail
      go_ret
      exact ⟨rfl, hb.trans (B3.mono hb.size)⟩

set_option maxHeartbeats 1000000 in
set_option maxRecDepth 100000 in
theorem pointText_ex (b o c m : Nat) (y z : Int) (T : ByteArray) (w : World) (_hc : m + 1 ≤ c) (hc3 : 1 < c) (hc0 : w.cell? ⟨b, o, none⟩ = some (.int .i64 8)) (hc1 : w.cell? ⟨b, o + 1, none⟩ = some (.int .i64 y)) (hc2 : w.cell? ⟨b, o + 2, none⟩ = some (.int .i64 z)) (y0 : 0 ≤ y) (y1 : y ≤ 9) (hT : T.size ≤ 4000)
    (hrec : Hid (∀ W, Below w.heap.size w W → Calls Tryd.prog 31 #[.slice (some ⟨b, o + 3, none⟩) m (c - 1)] W fun e w' => e = .returned (.string T) ∧ Below W.heap.size W w')) :
    Calls Tryd.prog 31 #[.slice (some ⟨b, o, none⟩) (m + 1) c] w fun e w' => e = .returned (.string (ByteArray.mk #[69] ++ dec1 y ++ T)) ∧ Below w.heap.size w w' := by
  have hbl := Lib.hid (fun W (hW : Below w.heap.size w W) => below_un2 b o c m 8 y z W _hc hc3 (keep_cell hW hc0) (keep_cell hW hc1) (keep_cell hW hc2) rfl)
  have hd1 := Lib.hid (fun W => decimal_any y y0 y1 W)
  have s1 : (dec1 y).size ≤ 1 := Nat.le_refl _
  have ha0 := alloc_cell hc0
  have ha1 := alloc_cell hc1
  have ha2 := alloc_cell hc2
  clear y0 y1
  generalize dec1 y = S at *
  go_enter Tryd.func31, Tryd.ntmps31
  go_upto_region 1 with fail
  go_cut [3, 4] from 5 to 9 (fun s t wx => ∃ g gb, s = .pointer (some ⟨g, 0, none⟩) ∧ t = .slice (some ⟨gb, 0, none⟩) 1 1 ∧ Hid (Box3 wx g 8 y z) ∧ Hid (wx.cell? ⟨gb, 0, none⟩ = some (.slice (some ⟨b, o + 3, none⟩) m (c - 1))) ∧ Below w.heap.size w wx)
  case first =>
    (first | (go_region_with (first
      | (go_at_call 62; refine (hbl.out _ (by first | exact Below.refl _ _ | exact Below.drew (Below.refl _ _) | exact (Below.refl _ _).alloc (Nat.le_refl _) _ | exact ((Below.refl _ _).alloc (Nat.le_refl _) _).drew)).mono ?_; rintro e w1 ⟨rfl, hrow, b1, hs1, k0, k1, k2, ka0, ka1, ka2⟩; (first | (have hz := box_zeros (w := w) b1.out; obtain ⟨z0, z1, z2, f0, f1, f2⟩ := hz) | skip)))) | fail)
    all_goals
      go_wp2_with fail
      go_meet
      first
        | exact un_endB (vl := .slice (some ⟨b, o + 3, none⟩) m (c - 1)) z0 z1 z2 hrow (by simp) b1.out
        | exact un_endA (vl := .slice (some ⟨b, o + 3, none⟩) m (c - 1)) hrow b1.out
  case rest =>
    obtain ⟨g, gb, rfl, rfl, hbx, hrow, hb⟩ := hcut
    obtain ⟨hx0, hx1, hx2⟩ := hbx.out
    have hrow := hrow.out
    have hrec2 := Lib.hid (fun W (hW : Below wc.heap.size wc W) => hrec.out W (hb.trans (hW.mono hb.size)))
    go_wp2_with fail
    go_region_with (first
      | (go_at_call 63; refine (hd1.out _).mono ?_; rintro e w' ⟨rfl, rfl⟩)
      | (go_at_call 31; refine (hrec2.out _ (by first | exact Below.refl _ _ | exact Below.drew (Below.refl _ _) | exact below_drewN' _ _)).mono ?_; rintro e w3 ⟨rfl, b3⟩; have B3 : Below wc.heap.size wc w3 := ⟨b3.os, b3.tape, b3.output, b3.size, b3.block⟩))
    all_goals
      go_wp2_with fail
      go_ret
      exact ⟨rfl, hb.trans (B3.mono hb.size)⟩
end Go.Proofs.YtfedipeabbaccaaDoor
