/- PointText: the program's walk, its leaves. -/
import Derived.Test.YtfedipeabbaccaaDoorPtTextTwo
import Derived.Test.YtfedipeabbaccaaDoorFree
import Derived.Deep.RegionWith
import Derived.Deep.Cut
import Derived.Deep.DeepCutAuto
namespace Go.Proofs.YtfedipeabbaccaaDoor
open Go.RowKit Go.Deep

def Box3 (w : World) (g : Nat) (x y z : Int) : Prop := w.cell? ⟨g, 0, none⟩ = some (.int .i64 x) ∧ w.cell? ⟨g, 1, none⟩ = some (.int .i64 y) ∧ w.cell? ⟨g, 2, none⟩ = some (.int .i64 z)
theorem box3_made (w : World) (x y z : Int) (T : TypeId) : Hid (Box3 (w.alloc (.cells #[.int .i64 x, .int .i64 y, .int .i64 z] T)).drew w.heap.size x y z) ∧ Below w.heap.size w (w.alloc (.cells #[.int .i64 x, .int .i64 y, .int .i64 z] T)).drew := by
  refine ⟨⟨?_, ?_, ?_⟩, ((Below.refl _ _).alloc (Nat.le_refl _) _).drew⟩
  · show (w.alloc _).cell? _ = _; rw [World.cell?_alloc_at _ _ _ _ rfl]; rfl
  · show (w.alloc _).cell? _ = _; rw [World.cell?_alloc_at _ _ _ _ rfl]; rfl
  · show (w.alloc _).cell? _ = _; rw [World.cell?_alloc_at _ _ _ _ rfl]; rfl
theorem alloc_cell {w : World} {p : Addr} {v : Value} (h : w.cell? p = some v) : ∀ ob, (w.alloc ob).cell? p = some v := fun _ => keep_cell ((Below.refl _ _).alloc (Nat.le_refl _) _) h

set_option maxHeartbeats 1000000 in
set_option maxRecDepth 100000 in
theorem pointText_sees (v : Value) (y z : Int) (w : World) (h : Points w v [(0, y, z)]) (y0 : 0 ≤ y) (y1 : y ≤ 9) (z0 : 0 ≤ z) (z1 : z ≤ 9) :
    Calls Tryd.prog 31 #[v] w fun e w' => e = .returned (.string (ByteArray.mk #[82] ++ dec1 y ++ dec1 z)) ∧ Below w.heap.size w w' := by
  have hbl := Lib.hid (fun W (hW : Below w.heap.size w W) => below_leaf v (0, y, z) W (h.below hW (Nat.le_refl _)) rfl)
  obtain ⟨c, b, o, rfl, hc, hcm, hcell⟩ := h.raw (by simp)
  obtain ⟨hc0, hc1, hc2⟩ := point_head hcell.out
  have ha0 := alloc_cell hc0
  have ha1 := alloc_cell hc1
  have ha2 := alloc_cell hc2
  have hd1 := Lib.hid (fun W => decimal_any y y0 y1 W)
  have hd2 := Lib.hid (fun W => decimal_any z z0 z1 W)
  have s1 : (dec1 y).size ≤ 1 := Nat.le_refl _
  have s2 : (dec1 z).size ≤ 1 := Nat.le_refl _
  clear y0 y1 z0 z1
  clear h hcm hcell
  simp only [List.length_cons, List.length_nil] at hc hbl ⊢
  generalize dec1 y = S at *
  generalize dec1 z = U at *
  go_enter Tryd.func31, Tryd.ntmps31
  go_upto_region 1 with fail
  go_cut [3, 4] from 5 to 9 (fun s t wx => ∃ g, s = .pointer (some ⟨g, 0, none⟩) ∧ t = .slice none 0 0 ∧ Hid (Box3 wx g 0 y z) ∧ Below w.heap.size w wx)
  case first =>
    go_region_with (first | (go_at_call 62; refine (hbl.out _ (by first | exact Below.refl _ _ | exact Below.drew (Below.refl _ _) | exact below_drewN' _ _ | exact (Below.refl _ _).alloc (Nat.le_refl _) _ | exact ((Below.refl _ _).alloc (Nat.le_refl _) _).drew | exact (below_drewN' _ _).alloc (by simp) _)).mono ?_; rintro e w' ⟨rfl, rfl⟩))
    all_goals
      go_wp2_with fail
      go_meet
      exact ⟨_, rfl, rfl, (box3_made _ _ _ _ _).1, (box3_made _ _ _ _ _).2⟩
  case rest =>
    obtain ⟨g, rfl, rfl, hbx, hb⟩ := hcut
    obtain ⟨hx0, hx1, hx2⟩ := hbx.out
    go_wp2_with fail
    go_quiet (first | (go_at_call_of 63 (Value.int .i64 y); exact quiet_eq (hd1.out _)) | (go_at_call_of 63 (Value.int .i64 z); exact quiet_eq (hd2.out _)))
    go_wp2_with fail
    go_ret
    exact ⟨rfl, below_drewN hb _⟩

set_option maxHeartbeats 1000000 in
set_option maxRecDepth 100000 in
theorem pointText_eq (v : Value) (y z : Int) (w : World) (h : Points w v [(1, y, z)]) (y0 : 0 ≤ y) (y1 : y ≤ 9) (z0 : 0 ≤ z) (z1 : z ≤ 9) :
    Calls Tryd.prog 31 #[v] w fun e w' => e = .returned (.string (dec1 y ++ ByteArray.mk #[61] ++ dec1 z)) ∧ Below w.heap.size w w' := by
  have hbl := Lib.hid (fun W (hW : Below w.heap.size w W) => below_leaf v (1, y, z) W (h.below hW (Nat.le_refl _)) rfl)
  obtain ⟨c, b, o, rfl, hc, hcm, hcell⟩ := h.raw (by simp)
  obtain ⟨hc0, hc1, hc2⟩ := point_head hcell.out
  have ha0 := alloc_cell hc0
  have ha1 := alloc_cell hc1
  have ha2 := alloc_cell hc2
  have hd1 := Lib.hid (fun W => decimal_any y y0 y1 W)
  have hd2 := Lib.hid (fun W => decimal_any z z0 z1 W)
  have s1 : (dec1 y).size ≤ 1 := Nat.le_refl _
  have s2 : (dec1 z).size ≤ 1 := Nat.le_refl _
  clear y0 y1 z0 z1
  clear h hcm hcell
  simp only [List.length_cons, List.length_nil] at hc hbl ⊢
  generalize dec1 y = S at *
  generalize dec1 z = U at *
  go_enter Tryd.func31, Tryd.ntmps31
  go_upto_region 1 with fail
  go_cut [3, 4] from 5 to 9 (fun s t wx => ∃ g, s = .pointer (some ⟨g, 0, none⟩) ∧ t = .slice none 0 0 ∧ Hid (Box3 wx g 1 y z) ∧ Below w.heap.size w wx)
  case first =>
    go_region_with (first | (go_at_call 62; refine (hbl.out _ (by first | exact Below.refl _ _ | exact Below.drew (Below.refl _ _) | exact below_drewN' _ _ | exact (Below.refl _ _).alloc (Nat.le_refl _) _ | exact ((Below.refl _ _).alloc (Nat.le_refl _) _).drew | exact (below_drewN' _ _).alloc (by simp) _)).mono ?_; rintro e w' ⟨rfl, rfl⟩))
    all_goals
      go_wp2_with fail
      go_meet
      exact ⟨_, rfl, rfl, (box3_made _ _ _ _ _).1, (box3_made _ _ _ _ _).2⟩
  case rest =>
    obtain ⟨g, rfl, rfl, hbx, hb⟩ := hcut
    obtain ⟨hx0, hx1, hx2⟩ := hbx.out
    go_wp2_with fail
    go_quiet (first | (go_at_call_of 63 (Value.int .i64 y); exact quiet_eq (hd1.out _)) | (go_at_call_of 63 (Value.int .i64 z); exact quiet_eq (hd2.out _)))
    go_wp2_with fail
    go_ret
    exact ⟨rfl, below_drewN hb _⟩

set_option maxHeartbeats 1000000 in
set_option maxRecDepth 100000 in
theorem pointText_val0 (v : Value) (z : Int) (w : World) (h : Points w v [(2, 0, z)]) (z0 : 0 ≤ z) (z1 : z ≤ 9) :
    Calls Tryd.prog 31 #[v] w fun e w' => e = .returned (.string (letP 0 ++ dec1 z)) ∧ Below w.heap.size w w' := by
  have hbl := Lib.hid (fun W (hW : Below w.heap.size w W) => below_leaf v (2, 0, z) W (h.below hW (Nat.le_refl _)) rfl)
  obtain ⟨c, b, o, rfl, hc, hcm, hcell⟩ := h.raw (by simp)
  obtain ⟨hc0, hc1, hc2⟩ := point_head hcell.out
  have ha0 := alloc_cell hc0
  have ha1 := alloc_cell hc1
  have ha2 := alloc_cell hc2
  have hd2 := Lib.hid (fun W => decimal_any z z0 z1 W)
  have s2 : (dec1 z).size ≤ 1 := Nat.le_refl _
  clear z0 z1
  clear h hcm hcell
  simp only [List.length_cons, List.length_nil] at hc hbl ⊢
  generalize dec1 z = U at *
  go_enter Tryd.func31, Tryd.ntmps31
  go_upto_region 1 with fail
  go_cut [3, 4] from 5 to 9 (fun s t wx => ∃ g, s = .pointer (some ⟨g, 0, none⟩) ∧ t = .slice none 0 0 ∧ Hid (Box3 wx g 2 0 z) ∧ Below w.heap.size w wx)
  case first =>
    go_region_with (first | (go_at_call 62; refine (hbl.out _ (by first | exact Below.refl _ _ | exact Below.drew (Below.refl _ _) | exact below_drewN' _ _ | exact (Below.refl _ _).alloc (Nat.le_refl _) _ | exact ((Below.refl _ _).alloc (Nat.le_refl _) _).drew | exact (below_drewN' _ _).alloc (by simp) _)).mono ?_; rintro e w' ⟨rfl, rfl⟩))
    all_goals
      go_wp2_with fail
      go_meet
      exact ⟨_, rfl, rfl, (box3_made _ _ _ _ _).1, (box3_made _ _ _ _ _).2⟩
  case rest =>
    obtain ⟨g, rfl, rfl, hbx, hb⟩ := hcut
    obtain ⟨hx0, hx1, hx2⟩ := hbx.out
    go_wp2_with fail
    go_quiet ((go_at_call 63; exact quiet_eq (hd2.out _)))
    go_wp2_with fail
    go_ret
    exact ⟨rfl, below_drewN hb _⟩

set_option maxHeartbeats 1000000 in
set_option maxRecDepth 100000 in
theorem pointText_val1 (v : Value) (z : Int) (w : World) (h : Points w v [(2, 1, z)]) (z0 : 0 ≤ z) (z1 : z ≤ 9) :
    Calls Tryd.prog 31 #[v] w fun e w' => e = .returned (.string (letP 1 ++ dec1 z)) ∧ Below w.heap.size w w' := by
  have hbl := Lib.hid (fun W (hW : Below w.heap.size w W) => below_leaf v (2, 1, z) W (h.below hW (Nat.le_refl _)) rfl)
  obtain ⟨c, b, o, rfl, hc, hcm, hcell⟩ := h.raw (by simp)
  obtain ⟨hc0, hc1, hc2⟩ := point_head hcell.out
  have ha0 := alloc_cell hc0
  have ha1 := alloc_cell hc1
  have ha2 := alloc_cell hc2
  have hd2 := Lib.hid (fun W => decimal_any z z0 z1 W)
  have s2 : (dec1 z).size ≤ 1 := Nat.le_refl _
  clear z0 z1
  clear h hcm hcell
  simp only [List.length_cons, List.length_nil] at hc hbl ⊢
  generalize dec1 z = U at *
  go_enter Tryd.func31, Tryd.ntmps31
  go_upto_region 1 with fail
  go_cut [3, 4] from 5 to 9 (fun s t wx => ∃ g, s = .pointer (some ⟨g, 0, none⟩) ∧ t = .slice none 0 0 ∧ Hid (Box3 wx g 2 1 z) ∧ Below w.heap.size w wx)
  case first =>
    go_region_with (first | (go_at_call 62; refine (hbl.out _ (by first | exact Below.refl _ _ | exact Below.drew (Below.refl _ _) | exact below_drewN' _ _ | exact (Below.refl _ _).alloc (Nat.le_refl _) _ | exact ((Below.refl _ _).alloc (Nat.le_refl _) _).drew | exact (below_drewN' _ _).alloc (by simp) _)).mono ?_; rintro e w' ⟨rfl, rfl⟩))
    all_goals
      go_wp2_with fail
      go_meet
      exact ⟨_, rfl, rfl, (box3_made _ _ _ _ _).1, (box3_made _ _ _ _ _).2⟩
  case rest =>
    obtain ⟨g, rfl, rfl, hbx, hb⟩ := hcut
    obtain ⟨hx0, hx1, hx2⟩ := hbx.out
    go_wp2_with fail
    go_quiet ((go_at_call 63; exact quiet_eq (hd2.out _)))
    go_wp2_with fail
    go_ret
    exact ⟨rfl, below_drewN hb _⟩

set_option maxHeartbeats 1000000 in
set_option maxRecDepth 100000 in
theorem pointText_val2 (v : Value) (z : Int) (w : World) (h : Points w v [(2, 2, z)]) (z0 : 0 ≤ z) (z1 : z ≤ 9) :
    Calls Tryd.prog 31 #[v] w fun e w' => e = .returned (.string (letP 2 ++ dec1 z)) ∧ Below w.heap.size w w' := by
  have hbl := Lib.hid (fun W (hW : Below w.heap.size w W) => below_leaf v (2, 2, z) W (h.below hW (Nat.le_refl _)) rfl)
  obtain ⟨c, b, o, rfl, hc, hcm, hcell⟩ := h.raw (by simp)
  obtain ⟨hc0, hc1, hc2⟩ := point_head hcell.out
  have ha0 := alloc_cell hc0
  have ha1 := alloc_cell hc1
  have ha2 := alloc_cell hc2
  have hd2 := Lib.hid (fun W => decimal_any z z0 z1 W)
  have s2 : (dec1 z).size ≤ 1 := Nat.le_refl _
  clear z0 z1
  clear h hcm hcell
  simp only [List.length_cons, List.length_nil] at hc hbl ⊢
  generalize dec1 z = U at *
  go_enter Tryd.func31, Tryd.ntmps31
  go_upto_region 1 with fail
  go_cut [3, 4] from 5 to 9 (fun s t wx => ∃ g, s = .pointer (some ⟨g, 0, none⟩) ∧ t = .slice none 0 0 ∧ Hid (Box3 wx g 2 2 z) ∧ Below w.heap.size w wx)
  case first =>
    go_region_with (first | (go_at_call 62; refine (hbl.out _ (by first | exact Below.refl _ _ | exact Below.drew (Below.refl _ _) | exact below_drewN' _ _ | exact (Below.refl _ _).alloc (Nat.le_refl _) _ | exact ((Below.refl _ _).alloc (Nat.le_refl _) _).drew | exact (below_drewN' _ _).alloc (by simp) _)).mono ?_; rintro e w' ⟨rfl, rfl⟩))
    all_goals
      go_wp2_with fail
      go_meet
      exact ⟨_, rfl, rfl, (box3_made _ _ _ _ _).1, (box3_made _ _ _ _ _).2⟩
  case rest =>
    obtain ⟨g, rfl, rfl, hbx, hb⟩ := hcut
    obtain ⟨hx0, hx1, hx2⟩ := hbx.out
    go_wp2_with fail
    go_quiet ((go_at_call 63; exact quiet_eq (hd2.out _)))
    go_wp2_with fail
    go_ret
    exact ⟨rfl, below_drewN hb _⟩

set_option maxHeartbeats 1000000 in
set_option maxRecDepth 100000 in
theorem pointText_val3 (v : Value) (z : Int) (w : World) (h : Points w v [(2, 3, z)]) (z0 : 0 ≤ z) (z1 : z ≤ 9) :
    Calls Tryd.prog 31 #[v] w fun e w' => e = .returned (.string (letP 3 ++ dec1 z)) ∧ Below w.heap.size w w' := by
  have hbl := Lib.hid (fun W (hW : Below w.heap.size w W) => below_leaf v (2, 3, z) W (h.below hW (Nat.le_refl _)) rfl)
  obtain ⟨c, b, o, rfl, hc, hcm, hcell⟩ := h.raw (by simp)
  obtain ⟨hc0, hc1, hc2⟩ := point_head hcell.out
  have ha0 := alloc_cell hc0
  have ha1 := alloc_cell hc1
  have ha2 := alloc_cell hc2
  have hd2 := Lib.hid (fun W => decimal_any z z0 z1 W)
  have s2 : (dec1 z).size ≤ 1 := Nat.le_refl _
  clear z0 z1
  clear h hcm hcell
  simp only [List.length_cons, List.length_nil] at hc hbl ⊢
  generalize dec1 z = U at *
  go_enter Tryd.func31, Tryd.ntmps31
  go_upto_region 1 with fail
  go_cut [3, 4] from 5 to 9 (fun s t wx => ∃ g, s = .pointer (some ⟨g, 0, none⟩) ∧ t = .slice none 0 0 ∧ Hid (Box3 wx g 2 3 z) ∧ Below w.heap.size w wx)
  case first =>
    go_region_with (first | (go_at_call 62; refine (hbl.out _ (by first | exact Below.refl _ _ | exact Below.drew (Below.refl _ _) | exact below_drewN' _ _ | exact (Below.refl _ _).alloc (Nat.le_refl _) _ | exact ((Below.refl _ _).alloc (Nat.le_refl _) _).drew | exact (below_drewN' _ _).alloc (by simp) _)).mono ?_; rintro e w' ⟨rfl, rfl⟩))
    all_goals
      go_wp2_with fail
      go_meet
      exact ⟨_, rfl, rfl, (box3_made _ _ _ _ _).1, (box3_made _ _ _ _ _).2⟩
  case rest =>
    obtain ⟨g, rfl, rfl, hbx, hb⟩ := hcut
    obtain ⟨hx0, hx1, hx2⟩ := hbx.out
    go_wp2_with fail
    go_quiet ((go_at_call 63; exact quiet_eq (hd2.out _)))
    go_wp2_with fail
    go_ret
    exact ⟨rfl, below_drewN hb _⟩

set_option maxHeartbeats 1000000 in
set_option maxRecDepth 100000 in
theorem pointText_val4 (v : Value) (z : Int) (w : World) (h : Points w v [(2, 4, z)]) (z0 : 0 ≤ z) (z1 : z ≤ 9) :
    Calls Tryd.prog 31 #[v] w fun e w' => e = .returned (.string (letP 4 ++ dec1 z)) ∧ Below w.heap.size w w' := by
  have hbl := Lib.hid (fun W (hW : Below w.heap.size w W) => below_leaf v (2, 4, z) W (h.below hW (Nat.le_refl _)) rfl)
  obtain ⟨c, b, o, rfl, hc, hcm, hcell⟩ := h.raw (by simp)
  obtain ⟨hc0, hc1, hc2⟩ := point_head hcell.out
  have ha0 := alloc_cell hc0
  have ha1 := alloc_cell hc1
  have ha2 := alloc_cell hc2
  have hd2 := Lib.hid (fun W => decimal_any z z0 z1 W)
  have s2 : (dec1 z).size ≤ 1 := Nat.le_refl _
  clear z0 z1
  clear h hcm hcell
  simp only [List.length_cons, List.length_nil] at hc hbl ⊢
  generalize dec1 z = U at *
  go_enter Tryd.func31, Tryd.ntmps31
  go_upto_region 1 with fail
  go_cut [3, 4] from 5 to 9 (fun s t wx => ∃ g, s = .pointer (some ⟨g, 0, none⟩) ∧ t = .slice none 0 0 ∧ Hid (Box3 wx g 2 4 z) ∧ Below w.heap.size w wx)
  case first =>
    go_region_with (first | (go_at_call 62; refine (hbl.out _ (by first | exact Below.refl _ _ | exact Below.drew (Below.refl _ _) | exact below_drewN' _ _ | exact (Below.refl _ _).alloc (Nat.le_refl _) _ | exact ((Below.refl _ _).alloc (Nat.le_refl _) _).drew | exact (below_drewN' _ _).alloc (by simp) _)).mono ?_; rintro e w' ⟨rfl, rfl⟩))
    all_goals
      go_wp2_with fail
      go_meet
      exact ⟨_, rfl, rfl, (box3_made _ _ _ _ _).1, (box3_made _ _ _ _ _).2⟩
  case rest =>
    obtain ⟨g, rfl, rfl, hbx, hb⟩ := hcut
    obtain ⟨hx0, hx1, hx2⟩ := hbx.out
    go_wp2_with fail
    go_quiet ((go_at_call 63; exact quiet_eq (hd2.out _)))
    go_wp2_with fail
    go_ret
    exact ⟨rfl, below_drewN hb _⟩

set_option maxHeartbeats 1000000 in
set_option maxRecDepth 100000 in
theorem pointText_val5 (v : Value) (z : Int) (w : World) (h : Points w v [(2, 5, z)]) (z0 : 0 ≤ z) (z1 : z ≤ 9) :
    Calls Tryd.prog 31 #[v] w fun e w' => e = .returned (.string (letP 5 ++ dec1 z)) ∧ Below w.heap.size w w' := by
  have hbl := Lib.hid (fun W (hW : Below w.heap.size w W) => below_leaf v (2, 5, z) W (h.below hW (Nat.le_refl _)) rfl)
  obtain ⟨c, b, o, rfl, hc, hcm, hcell⟩ := h.raw (by simp)
  obtain ⟨hc0, hc1, hc2⟩ := point_head hcell.out
  have ha0 := alloc_cell hc0
  have ha1 := alloc_cell hc1
  have ha2 := alloc_cell hc2
  have hd2 := Lib.hid (fun W => decimal_any z z0 z1 W)
  have s2 : (dec1 z).size ≤ 1 := Nat.le_refl _
  clear z0 z1
  clear h hcm hcell
  simp only [List.length_cons, List.length_nil] at hc hbl ⊢
  generalize dec1 z = U at *
  go_enter Tryd.func31, Tryd.ntmps31
  go_upto_region 1 with fail
  go_cut [3, 4] from 5 to 9 (fun s t wx => ∃ g, s = .pointer (some ⟨g, 0, none⟩) ∧ t = .slice none 0 0 ∧ Hid (Box3 wx g 2 5 z) ∧ Below w.heap.size w wx)
  case first =>
    go_region_with (first | (go_at_call 62; refine (hbl.out _ (by first | exact Below.refl _ _ | exact Below.drew (Below.refl _ _) | exact below_drewN' _ _ | exact (Below.refl _ _).alloc (Nat.le_refl _) _ | exact ((Below.refl _ _).alloc (Nat.le_refl _) _).drew | exact (below_drewN' _ _).alloc (by simp) _)).mono ?_; rintro e w' ⟨rfl, rfl⟩))
    all_goals
      go_wp2_with fail
      go_meet
      exact ⟨_, rfl, rfl, (box3_made _ _ _ _ _).1, (box3_made _ _ _ _ _).2⟩
  case rest =>
    obtain ⟨g, rfl, rfl, hbx, hb⟩ := hcut
    obtain ⟨hx0, hx1, hx2⟩ := hbx.out
    go_wp2_with fail
    go_quiet ((go_at_call 63; exact quiet_eq (hd2.out _)))
    go_wp2_with fail
    go_ret
    exact ⟨rfl, below_drewN hb _⟩

set_option maxHeartbeats 1000000 in
set_option maxRecDepth 100000 in
theorem pointText_false (v : Value) (y z : Int) (w : World) (h : Points w v [(3, y, z)]) :
    Calls Tryd.prog 31 #[v] w fun e w' => e = .returned (.string (ByteArray.mk #[70])) ∧ Below w.heap.size w w' := by
  have hbl := Lib.hid (fun W (hW : Below w.heap.size w W) => below_leaf v (3, y, z) W (h.below hW (Nat.le_refl _)) rfl)
  obtain ⟨c, b, o, rfl, hc, hcm, hcell⟩ := h.raw (by simp)
  obtain ⟨hc0, hc1, hc2⟩ := point_head hcell.out
  have ha0 := alloc_cell hc0
  have ha1 := alloc_cell hc1
  have ha2 := alloc_cell hc2
  clear h hcm hcell
  simp only [List.length_cons, List.length_nil] at hc hbl ⊢
  go_enter Tryd.func31, Tryd.ntmps31
  go_upto_region 1 with fail
  go_cut [3, 4] from 5 to 9 (fun s t wx => ∃ g, s = .pointer (some ⟨g, 0, none⟩) ∧ t = .slice none 0 0 ∧ Hid (Box3 wx g 3 y z) ∧ Below w.heap.size w wx)
  case first =>
    go_region_with (first | (go_at_call 62; refine (hbl.out _ (by first | exact Below.refl _ _ | exact Below.drew (Below.refl _ _) | exact below_drewN' _ _ | exact (Below.refl _ _).alloc (Nat.le_refl _) _ | exact ((Below.refl _ _).alloc (Nat.le_refl _) _).drew | exact (below_drewN' _ _).alloc (by simp) _)).mono ?_; rintro e w' ⟨rfl, rfl⟩))
    all_goals
      go_wp2_with fail
      go_meet
      exact ⟨_, rfl, rfl, (box3_made _ _ _ _ _).1, (box3_made _ _ _ _ _).2⟩
  case rest =>
    obtain ⟨g, rfl, rfl, hbx, hb⟩ := hcut
    obtain ⟨hx0, hx1, hx2⟩ := hbx.out
    go_wp2_with fail
    go_ret
    exact ⟨rfl, hb⟩

end Go.Proofs.YtfedipeabbaccaaDoor
