/- PointText: the reference's walk, at a quantifier. -/
import Derived.Test.YtfedipeabbaccaaDoorPtTextThree
namespace Go.Proofs.YtfedipeabbaccaaDoor
open Go.RowKit Go.Deep

set_option maxHeartbeats 1000000 in
set_option maxRecDepth 100000 in
theorem l10Text_all (b o c m : Nat) (y z : Int) (T : ByteArray) (w : World) (_hc : m + 1 ≤ c) (hc3 : 1 < c) (hc0 : w.cell? ⟨b, o, none⟩ = some (.int .i64 7)) (hc1 : w.cell? ⟨b, o + 1, none⟩ = some (.int .i64 y)) (hc2 : w.cell? ⟨b, o + 2, none⟩ = some (.int .i64 z)) (y0 : 0 ≤ y) (y1 : y ≤ 9) (hT : T.size ≤ 4000)
    (hrec : Hid (∀ W, Below w.heap.size w W → Calls Tryd.prog 28 #[.slice (some ⟨b, o + 3, none⟩) m (c - 1)] W fun e w' => e = .returned (.string T) ∧ Below W.heap.size W w')) :
    Calls Tryd.prog 28 #[.slice (some ⟨b, o, none⟩) (m + 1) c] w fun e w' => e = .returned (.string (ByteArray.mk #[65] ++ dec1 y ++ T)) ∧ Below w.heap.size w w' := by
  have hd1 := Lib.hid (fun W => l01Dec_any y y0 y1 W)
  have s1 : (dec1 y).size ≤ 1 := Nat.le_refl _
  have hBA := Lib.hid ((Below.refl w.heap.size w).alloc (Nat.le_refl _) (.cells #[.int .i64 7, .int .i64 y, .int .i64 z] 49))
  have hbox1 : (w.alloc (.cells #[.int .i64 7, .int .i64 y, .int .i64 z] 49)).cell? ⟨w.heap.size, 1, none⟩ = some (.int .i64 y) := by rw [World.cell?_alloc_at _ _ _ _ rfl]; rfl
  clear y0 y1
  generalize dec1 y = S at *
  go_enter Tryd.func28, Tryd.ntmps28
  go_wp2_with fail
  generalize hA : w.alloc (.cells #[.int .i64 7, .int .i64 y, .int .i64 z] 49) = A at *
  replace hA := Lib.hid hA
  go_region_with (first
    | (go_at_call 53; refine (hd1.out _).mono ?_; rintro e w1 ⟨rfl, b1⟩; have B1 : Below A.heap.size A w1 := ⟨b1.os, b1.tape, b1.output, b1.size, b1.block⟩; have hbox3 := keep_cell B1 hbox1)
    | (go_at_call 28; refine (hrec.out w1 (hBA.out.trans (B1.mono hBA.out.size))).mono ?_; rintro e w2 ⟨rfl, b2⟩; have B2 := B1.trans (b2.mono B1.size); have hbox5 := keep_cell B2 hbox1))
  all_goals
    go_wp2_with fail
    go_ret
    exact ⟨rfl, hBA.out.trans (B2.mono hBA.out.size)⟩

set_option maxHeartbeats 1000000 in
set_option maxRecDepth 100000 in
theorem l10Text_ex (b o c m : Nat) (y z : Int) (T : ByteArray) (w : World) (_hc : m + 1 ≤ c) (hc3 : 1 < c) (hc0 : w.cell? ⟨b, o, none⟩ = some (.int .i64 8)) (hc1 : w.cell? ⟨b, o + 1, none⟩ = some (.int .i64 y)) (hc2 : w.cell? ⟨b, o + 2, none⟩ = some (.int .i64 z)) (y0 : 0 ≤ y) (y1 : y ≤ 9) (hT : T.size ≤ 4000)
    (hrec : Hid (∀ W, Below w.heap.size w W → Calls Tryd.prog 28 #[.slice (some ⟨b, o + 3, none⟩) m (c - 1)] W fun e w' => e = .returned (.string T) ∧ Below W.heap.size W w')) :
    Calls Tryd.prog 28 #[.slice (some ⟨b, o, none⟩) (m + 1) c] w fun e w' => e = .returned (.string (ByteArray.mk #[69] ++ dec1 y ++ T)) ∧ Below w.heap.size w w' := by
  have hd1 := Lib.hid (fun W => l01Dec_any y y0 y1 W)
  have s1 : (dec1 y).size ≤ 1 := Nat.le_refl _
  have hBA := Lib.hid ((Below.refl w.heap.size w).alloc (Nat.le_refl _) (.cells #[.int .i64 8, .int .i64 y, .int .i64 z] 49))
  have hbox1 : (w.alloc (.cells #[.int .i64 8, .int .i64 y, .int .i64 z] 49)).cell? ⟨w.heap.size, 1, none⟩ = some (.int .i64 y) := by rw [World.cell?_alloc_at _ _ _ _ rfl]; rfl
  clear y0 y1
  generalize dec1 y = S at *
  go_enter Tryd.func28, Tryd.ntmps28
  go_wp2_with fail
  generalize hA : w.alloc (.cells #[.int .i64 8, .int .i64 y, .int .i64 z] 49) = A at *
  replace hA := Lib.hid hA
  go_region_with (first
    | (go_at_call 53; refine (hd1.out _).mono ?_; rintro e w1 ⟨rfl, b1⟩; have B1 : Below A.heap.size A w1 := ⟨b1.os, b1.tape, b1.output, b1.size, b1.block⟩; have hbox3 := keep_cell B1 hbox1)
    | (go_at_call 28; refine (hrec.out w1 (hBA.out.trans (B1.mono hBA.out.size))).mono ?_; rintro e w2 ⟨rfl, b2⟩; have B2 := B1.trans (b2.mono B1.size); have hbox5 := keep_cell B2 hbox1))
  all_goals
    go_wp2_with fail
    go_ret
    exact ⟨rfl, hBA.out.trans (B2.mono hBA.out.size)⟩
end Go.Proofs.YtfedipeabbaccaaDoor
