/- impl.dropped: a list without one of its places, as a row of its own. -/
import Derived.Test.YtobbhflajkhcdaaIConcat
import Derived.Test.YtobbhflajkhcdaaListFns
import Derived.Lib.SmallJoins
namespace Go.Proofs.Ytobbhflajkhcdaa
open Go.RowKit
set_option linter.unusedVariables false
theorem cell_pair0 (w : World) (x y : Value) (t : TypeId) : ((w.alloc (.cells #[x, y] t)).drew).cell? ⟨w.heap.size, 0, none⟩ = some x := by
  show (w.alloc (.cells #[x, y] t)).cell? _ = _
  unfold World.cell?
  rw [heap_alloc_new]
  rfl
theorem cell_pair1 (w : World) (x y : Value) (t : TypeId) : ((w.alloc (.cells #[x, y] t)).drew).cell? ⟨w.heap.size, 1, none⟩ = some y := by
  show (w.alloc (.cells #[x, y] t)).cell? _ = _
  unfold World.cell?
  rw [heap_alloc_new]
  rfl
theorem below_drewX (w : World) (n : Nat) : Below w.heap.size w (w.drewN n) := below_drewN (Below.refl _ _) n

set_option maxHeartbeats 4000000 in
set_option maxRecDepth 100000 in
theorem dropped_any (v : Value) (xs : List Int) (i : Nat) (w : World) (h : Ints w v xs) (hi : i < xs.length) (hn : xs.length ≤ 1000) :
    Calls Try.prog 49 #[v, .int .i64 (i : Int)] w fun e w' => ∃ v', e = .returned v' ∧ w'.ownsRow w.heap.size 2 1 v' (xs.length - 1) ((xs.take i ++ xs.drop (i + 1)).map (Value.int .i64)) ∧ Below w.heap.size w w' := by
  obtain ⟨hm, a, c, b, o, rfl, hc, h0, hcell⟩ := h.opened
  rcases h0 with h0 | ⟨h0, rfl⟩
  · omega
  clear h
  obtain ⟨ad, had, hsrc0⟩ : ∃ ad : Addr, (if c = i + 1 then some (⟨b, o, none⟩ : Addr) else some ⟨b, o + (i + 1), none⟩) = some ad ∧ ∀ j u, ((xs.drop (i + 1)).map (Value.int .i64))[j]? = some u → w.cell? (ad.add j) = some u := by
    have hs := ints_src hcell.out (Below.refl w.heap.size w) (Nat.le_refl _)
    by_cases hcc : c = i + 1
    · refine ⟨_, if_pos hcc, fun j u hu => ?_⟩
      rw [List.drop_of_length_le (by omega)] at hu
      simp at hu
    · refine ⟨_, if_neg hcc, fun j u hu => ?_⟩
      rw [List.map_drop, List.getElem?_drop] at hu
      have := hs _ u hu
      rw [Addr.add_lit] at this ⊢
      rw [show o + (i + 1) + j = o + (i + 1 + j) by omega]
      exact this
  have hsrc1 : ∀ j u, ((xs.take i).map (Value.int .i64))[j]? = some u → w.cell? ((⟨b, o, none⟩ : Addr).add j) = some u := by
    intro j u hu
    have hs := ints_src hcell.out (Below.refl w.heap.size w) (Nat.le_refl _)
    refine hs j u ?_
    rw [List.map_take, List.getElem?_take] at hu
    split at hu
    · exact hu
    · cases hu
  have hwr : IntKind.i64.wrap ((i : Int) + 1) = (i : Int) + 1 := by rw [IntKind.wrap_i64]; omega
  have htn : ((i : Int) + 1).toNat = i + 1 := by omega
  have hk0 : (0 : Int) ≤ (i : Int) + 1 := by omega
  have hkc : (i : Int) ≤ (c : Int) := by omega
  have hkn : ((i : Int) + 1) ≤ (xs.length : Int) := by omega
  have hcon := Lib.hid (fun (W : World) (hb : Below w.heap.size w W) (g : Nat) (h1 : W.cell? ⟨g, 0, none⟩ = some (.slice (some ⟨b, o, none⟩) i c)) (h2 : W.cell? ⟨g, 1, none⟩ = some (.slice (some ad) (xs.length - (i + 1)) (c - (i + 1)))) =>
    concat2_any g ⟨b, o, none⟩ ad i c (xs.length - (i + 1)) (c - (i + 1)) (xs.take i) (xs.drop (i + 1)) W h1 h2 (by rw [List.length_take]; omega) (by rw [List.length_drop]) (fun j u hu => keep_cell hb (hsrc1 j u hu)) (fun j u hu => keep_cell hb (hsrc0 j u hu)) (by omega) (by omega))
  have hcell := hcell
  clear hsrc0 hsrc1 hcell
  have hbw := Lib.hid (fun (x : Obj) => ((Below.refl w.heap.size w).alloc (Nat.le_refl _) x).drew)
  go_enter Try.func49, Try.ntmps49
  go_wp2_with fail
  go_region_with (first | (go_at_call 63; refine (hcon.out _ (hbw.out _) _ (cell_pair0 _ _ _ _) (cell_pair1 _ _ _ _)).mono ?_; rintro e w5 ⟨v5, rfl, o5, b5⟩))
  all_goals
    go_wp2_with fail
    go_ret
    refine ⟨v5, rfl, ?_, keep_step b5 (hbw.out _)⟩
    rw [show xs.length - 1 = i + (xs.length - (i + 1)) by omega]
    exact Go.Joins.ownsRow_le o5 (by simp)
end Go.Proofs.Ytobbhflajkhcdaa
