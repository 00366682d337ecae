/- PointText: the reference's walk, more leaves. -/
import Derived.Test.YtfedipeabbaccaaDoorPtTextThree
namespace Go.Proofs.YtfedipeabbaccaaDoor
open Go.RowKit Go.Deep

set_option maxHeartbeats 1000000 in
set_option maxRecDepth 100000 in
theorem l10Text_eq (v : Value) (y z : Int) (w : World) (h : Points w v [(1, y, z)]) (y0 : 0 ≤ y) (y1 : y ≤ 9) (z0 : 0 ≤ z) (z1 : z ≤ 9) :
    Calls Tryd.prog 28 #[v] w fun e w' => e = .returned (.string (dec1 y ++ ByteArray.mk #[61] ++ dec1 z)) ∧ Below w.heap.size w w' := by
  obtain ⟨c, b, o, rfl, hc, hcm, hcell⟩ := h.raw (by simp)
  obtain ⟨hc0, hc1, hc2⟩ := point_head hcell.out
  have hd1 := Lib.hid (fun W => l01Dec_any y y0 y1 W)
  have hd2 := Lib.hid (fun W => l01Dec_any z z0 z1 W)
  have s1 : (dec1 y).size ≤ 1 := Nat.le_refl _
  have s2 : (dec1 z).size ≤ 1 := Nat.le_refl _
  have hBA := Lib.hid ((Below.refl w.heap.size w).alloc (Nat.le_refl _) (.cells #[.int .i64 1, .int .i64 y, .int .i64 z] 49))
  have hbox1 : (w.alloc (.cells #[.int .i64 1, .int .i64 y, .int .i64 z] 49)).cell? ⟨w.heap.size, 1, none⟩ = some (.int .i64 y) := by rw [World.cell?_alloc_at _ _ _ _ rfl]; rfl
  have hbox2 : (w.alloc (.cells #[.int .i64 1, .int .i64 y, .int .i64 z] 49)).cell? ⟨w.heap.size, 2, none⟩ = some (.int .i64 z) := by rw [World.cell?_alloc_at _ _ _ _ rfl]; rfl
  clear h hcm hcell y0 y1 z0 z1
  simp only [List.length_cons, List.length_nil] at hc ⊢
  generalize dec1 y = S at *
  generalize dec1 z = U at *
  go_enter Tryd.func28, Tryd.ntmps28
  go_wp2_with fail
  generalize hA : w.alloc (.cells #[.int .i64 1, .int .i64 y, .int .i64 z] 49) = A at *
  replace hA := Lib.hid hA
  go_region_with (first
    | (go_at_call_of 53 (Value.int .i64 y); refine (hd1.out _).mono ?_; rintro e w1 ⟨rfl, b1⟩; have B1 : Below A.heap.size A w1 := ⟨b1.os, b1.tape, b1.output, b1.size, b1.block⟩; have hbox3 := keep_cell B1 hbox1; have hbox4 := keep_cell B1 hbox2)
    | (go_at_call_of 53 (Value.int .i64 z); refine (hd2.out _).mono ?_; rintro e w2 ⟨rfl, b2⟩; have B2 := B1.trans (b2.mono B1.size); have hbox5 := keep_cell B2 hbox1; have hbox6 := keep_cell B2 hbox2))
  all_goals
    go_wp2_with fail
    go_ret
    exact ⟨rfl, hBA.out.trans (B2.mono hBA.out.size)⟩

set_option maxRecDepth 100000 in
theorem l10Text_false (v : Value) (y z : Int) (w : World) (h : Points w v [(3, y, z)]) :
    Calls Tryd.prog 28 #[v] w fun e w' => e = .returned (.string (ByteArray.mk #[70])) ∧ Below w.heap.size w w' := by
  obtain ⟨c, b, o, rfl, hc, hcm, hcell⟩ := h.raw (by simp)
  obtain ⟨hc0, hc1, hc2⟩ := point_head hcell.out
  have hBA := Lib.hid ((Below.refl w.heap.size w).alloc (Nat.le_refl _) (.cells #[.int .i64 3, .int .i64 y, .int .i64 z] 49))
  clear h hcm hcell
  simp only [List.length_cons, List.length_nil] at hc ⊢
  go_enter Tryd.func28, Tryd.ntmps28
  go_wp2_with fail
  go_ret
  exact ⟨rfl, hBA.out⟩
end Go.Proofs.YtfedipeabbaccaaDoor
