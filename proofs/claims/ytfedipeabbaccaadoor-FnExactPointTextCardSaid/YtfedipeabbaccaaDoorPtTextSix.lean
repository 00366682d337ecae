/- PointText: the reference's walk, at a value and at a node of two parts. -/
import Derived.Test.YtfedipeabbaccaaDoorPtTextThree
namespace Go.Proofs.YtfedipeabbaccaaDoor
open Go.RowKit Go.Deep

theorem letter_letP (y : Int) : letter y = letP y := rfl

theorem l02VarP_any (i : Int) (w : World) :
    Calls Tryd.prog 55 #[.int .i64 i] w fun e w' => e = .returned (.slice (some ⟨w.heap.size, 0, none⟩) 1 1) ∧ Hid (Nodes w' (.slice (some ⟨w.heap.size, 0, none⟩) 1 1) [(0, i)]) ∧ Below w.heap.size w w' := by
  have hl0 := Lib.hid (World.ownsRow_lit (e := 68) (base := w.heap.size) (size := 2) w #[.int .i64 0, .int .i64 i] 1 (Nat.le_refl _) (by simp [maxLen]) rfl)
  go_enter Tryd.func55, Tryd.ntmps55
  go_wp2_with fail
  go_ret
  exact ⟨rfl, Lib.hid (nodes_of_own (ns := [(0, i)]) hl0.out), (Below.refl _ _).alloc (Nat.le_refl _) _⟩
theorem varText (y : Int) (y0 : 0 ≤ y) (y1 : y ≤ 5) (v : Value) (W : World) (h : Nodes W v [(0, y)]) :
    Calls Tryd.prog 54 #[v] W fun e w' => e = .returned (.string (letP y)) ∧ Below W.heap.size W w' := by
  have h9 := l02Text_any (.node 0 0 (0, y) .nil .nil) v W (.inl ⟨rfl, rfl, rfl⟩) (fun n hn => by
    have : n = (0, y) := by simpa [flat] using hn
    subst this
    simp [nodeB, y0, y1]) h (by simp [flat])
  rw [txtB_var, letter_letP] at h9
  exact h9

set_option maxHeartbeats 1000000 in
set_option maxRecDepth 100000 in
theorem l10Text_val (v : Value) (y z : Int) (w : World) (h : Points w v [(2, y, z)]) (y0 : 0 ≤ y) (y1 : y ≤ 5) (z0 : 0 ≤ z) (z1 : z ≤ 9) :
    Calls Tryd.prog 28 #[v] w fun e w' => e = .returned (.string (letP y ++ dec1 z)) ∧ Below w.heap.size w w' := by
  obtain ⟨c, b, o, rfl, hc, hcm, hcell⟩ := h.raw (by simp)
  obtain ⟨hc0, hc1, hc2⟩ := point_head hcell.out
  have hd1 := Lib.hid (varText y y0 y1)
  have hd2 := Lib.hid (fun W => l01Dec_any z z0 z1 W)
  have s1 : (letP y).size ≤ 6 := letP_size y
  have s2 : (dec1 z).size ≤ 1 := Nat.le_refl _
  have hBA := Lib.hid ((Below.refl w.heap.size w).alloc (Nat.le_refl _) (.cells #[.int .i64 2, .int .i64 y, .int .i64 z] 49))
  have hbox1 : (w.alloc (.cells #[.int .i64 2, .int .i64 y, .int .i64 z] 49)).cell? ⟨w.heap.size, 1, none⟩ = some (.int .i64 y) := by rw [World.cell?_alloc_at _ _ _ _ rfl]; rfl
  have hbox2 : (w.alloc (.cells #[.int .i64 2, .int .i64 y, .int .i64 z] 49)).cell? ⟨w.heap.size, 2, none⟩ = some (.int .i64 z) := by rw [World.cell?_alloc_at _ _ _ _ rfl]; rfl
  clear h hcm hcell y0 y1 z0 z1
  simp only [List.length_cons, List.length_nil] at hc ⊢
  generalize letP y = S at *
  generalize dec1 z = U at *
  go_enter Tryd.func28, Tryd.ntmps28
  go_wp2_with fail
  generalize hA : w.alloc (.cells #[.int .i64 2, .int .i64 y, .int .i64 z] 49) = A at *
  replace hA := Lib.hid hA
  go_region_with (first
    | (go_at_call 55; refine (l02VarP_any y _).mono ?_; rintro e w1 ⟨rfl, hn1, b1⟩; have B1 : Below A.heap.size A w1 := ⟨b1.os, b1.tape, b1.output, b1.size, b1.block⟩; have hbox3 := keep_cell B1 hbox1; have hbox4 := keep_cell B1 hbox2)
    | (go_at_call 54; refine (hd1.out _ _ (hn1.out.below (by first | exact Below.refl _ _ | exact Below.drew (Below.refl _ _) | exact below_drewN' _ _) (Nat.le_refl _))).mono ?_; rintro e w2 ⟨rfl, b2⟩; have B2 := B1.trans (b2.mono B1.size); have hbox5 := keep_cell B2 hbox1; have hbox6 := keep_cell B2 hbox2)
    | (go_at_call 53; refine (hd2.out _).mono ?_; rintro e w3 ⟨rfl, b3⟩; have B3 := B2.trans (b3.mono B2.size); have hbox7 := keep_cell B3 hbox1; have hbox8 := keep_cell B3 hbox2))
  all_goals
    go_wp2_with fail
    go_ret
    exact ⟨rfl, hBA.out.trans (B3.mono hBA.out.size)⟩
end Go.Proofs.YtfedipeabbaccaaDoor
