/- slices.AppendSeq, slices.Collect over maps.Values of a map of slices. (turned from the kit's worked text on filter and collect) -/
import Derived.Test.YtmhkcicjbgifnaaGreatMValsM
import Derived.RangeFuncBox
import Derived.RangeFuncFrom
import Derived.RangeFuncNested
import Derived.RangeFuncBound
import Derived.RangeFuncCalls
import Derived.Shelf.RegionOpen
import Derived.Maps.AppendAt

namespace Go.Proofs.YtmhkcicjbgifnaaGreat
open Go.RowKit Go.Maps Go.Shelf
set_option linter.unusedVariables false
set_option linter.unusedSimpArgs false
attribute [local go_sem] Oper.semAt_some

theorem values_stops (F : Fence) (n : Nat) (h7 : F.fn 75) (hro : F.round = none) (hn : 1 ≤ n) (Bm b nn : Nat) (D0 : DataW Value) (f : Int → Option Value) (hrf : ReadsF D0 f) (hsl : ∀ x v, f x = some v → ∃ h : HdI, v = hdVI h) (w : World) (hBm : Bm < w.heap.size)
    (hm : w.cell? ⟨Bm, 0, none⟩ = some (.map (some b))) (hown : w.ownsMap Tryz.prog 2 heldElem b nn D0) :
    SeqStops F n Tryz.prog 75 #[.pointer (some ⟨Bm, 0, none⟩)] hdVI (AllV f) (fun _ => True) (Maps.size D0) w := fun l J Jx W hW hJ _ hY h0 => by
  have hown' : W.ownsMap Tryz.prog 2 heldElem b nn D0 := by
    have hbl := hown.lt
    obtain ⟨es, clock, hb, Ft, hs, hD⟩ := hown
    exact ⟨es, clock, (hW.block b hbl).trans hb, Ft, hs, hD⟩
  exact values1_in F n h7 hro hn l Bm b nn D0 f hrf hsl J Jx hY W hJ ((hW.cell (p := ⟨Bm, 0, none⟩) hBm).trans hm) hown' h0

set_option maxRecDepth 100000 in
set_option maxHeartbeats 2000000 in
theorem appendSeq_in (F : Fence) (n : Nat) (h96 : F.fn 96) (h75 : F.fn 75) (hro : F.round = none) (hn : 3 ≤ n) (Bm b nn : Nat) (hnn : nn ≤ 1000) (D0 : DataW Value) (f : Int → Option Value) (hrf : ReadsF D0 f) (hsl : ∀ x v, f x = some v → ∃ h : HdI, v = hdVI h) (w : World) (hBm : Bm < w.heap.size)
    (hm : w.cell? ⟨Bm, 0, none⟩ = some (.map (some b))) (hown : w.ownsMap Tryz.prog 2 heldElem b nn D0) :
    CallsIn F n Tryz.prog 96 #[.slice none 0 0, .func (.func 75) #[] #[.pointer (some ⟨Bm, 0, none⟩)]] w fun e W' => ∃ v hs, e = .returned v ∧ AllV f hs ∧ W'.ownsRow w.heap.size 48 1 v hs.length (hs.map hdVI) ∧ Below w.heap.size w W' := by
  have h1 : 1 ≤ n := by omega
  have hsz := hown.size_le
  obtain ⟨i0, hi, hz0, hz1, hz2⟩ := info_parts info_ints
  refine callsIn_of_wp_marks Tryz.func96 rfl h96 ?_ hro
  simp only [Tryz.ntmps96, List.size_toArray, List.length_cons, List.length_nil, Nat.reduceAdd, Nat.reduceSub, Array.replicate_succ, Array.replicate_zero, List.push_toArray, List.append_toArray, List.nil_append, List.cons_append]
  gi_wp2
  have bO := Boxed.new w 24 (.slice none 0 0)
  have hB0 : Below w.heap.size w (w.alloc (.cells #[.slice none 0 0] 24)) := (Below.refl _ w).alloc (Nat.le_refl _) _
  have hstops := values_stops F (n - 1) h75 hro (by omega) Bm b nn D0 f hrf hsl (w.alloc (.cells #[.slice none 0 0] 24)) (by simp; omega) (keep_cell hB0 hm) (hown.kept (World.grownBy_alloc w _ none) (by simp))
  refine wpIn_rangeFunc_ownF hro h1 (gf := 75) (lb := #[.pointer (some ⟨Bm, 0, none⟩)]) rfl h75 (enters_of Tryz.func75 (by kernel_rfl) rfl)
    (encs := fun x => #[hdVI x]) (Kp := KeepsWalks) (S := AllV f) (Sp := fun _ => True) (N := Maps.size D0) hstops walksK_t walksK_b (Below.refl _ _) (fun _ => rfl)
    (fun pre W => (∃ v, Boxed W w.heap.size 24 v ∧ W.ownsRow w.heap.size 48 1 v pre.length (pre.map hdVI) ∧ True) ∧ Below w.heap.size w W)
    (fun _ _ _ => False)
    (OwnFrom.and (Own.from (holdsRow_own w.heap.size w.heap.size 24 48 1 (fun pre : List HdI => pre.length) (fun pre : List HdI => pre.map hdVI) (fun (pre : List HdI) v => True)) _) (ownFrom_below (Nat.le_refl _) (by simp)))
    (fun _ _ _ _ _ hs _ _ => hs)
    ⟨⟨_, bO, World.ownsRow_nil _ _ _ _, trivial⟩, hB0⟩
    (fun x => { tmps := #[.slice none 0 0, .func (.func 75) #[] #[.pointer (some ⟨Bm, 0, none⟩)], .pointer (some ⟨w.heap.size, 0, none⟩), undef, .slice none 0 0, hdVI x, .func (.func 75) #[] #[.pointer (some ⟨Bm, 0, none⟩)], hdVI x, undef, undef, undef, undef, undef], defers := [] }) ?assign ?body ?done ?stop
  case assign =>
    intro l x W K hK
    gi_wp2
    exact hK
  case body =>
    rintro l pre x W ⟨⟨v, hv, hrow, hnil⟩, hB⟩ hlt
    have hc := hv.cell
    obtain ⟨ha, hn1, hc1⟩ := x
    unfold hdVI at *
    gi_wp2_with (gi_at_builtin; refine wpListIn_append_own _ rfl _ _ 24 rfl w.heap.size 48 i0 (.slice none 0 0) 1 24 Tryz.underlying24 hi hz0 hz1 hz2 rfl (by decide) _ _ _ rfl (hrow.alloc _) ⟨W.heap.size, 0, none⟩ 1 1 [.slice ha hn1 hc1] rfl rfl (cell_one_new _ _ _) (by simp [Value.oneCell']) (by unfold maxLen; omega) (by omega) (by have := hB.size; simp; omega) ?_; intro v' w1 hown' hgrow _; obtain ⟨g', cap', rfl⟩ := ownsRow_succ hown'; obtain ⟨hv1, hv2, hr2, hk2, hb2⟩ := hv.appended (by decide) hrow hB.size (Nat.le_refl _) hown' hgrow; have hc1 := hv1.cell; have hf1 := hv1.frozen)
    exact ⟨hk2, hk2.walks, ⟨_, hv2, by simpa using hr2⟩, hB.trans hb2⟩
  case done =>
    rintro D ys W hD hS ⟨⟨v, hv, hrow, hnil⟩, hB⟩ hK
    have hc := hv.cell
    gi_wp2
    refine ⟨by simp, .inl ⟨_, _, rfl, run_takeDeferred hK, ?_⟩⟩
    exact ⟨_, results_tmp rfl _ _ _, v, ys, rfl, hS, ownsRow_putObj hrow _ hK rfl, hB.trans (belowK_b (w := w) (Nat.le_refl _) W D _ _ (by simp at hD; omega) hK rfl rfl)⟩
  case stop =>
    rintro D c pre W _ _ h _
    exact h.elim
set_option maxHeartbeats 1000000 in
theorem collect_in (F : Fence) (n : Nat) (h74 : F.fn 74) (h96 : F.fn 96) (h75 : F.fn 75) (hro : F.round = none) (hn : 4 ≤ n) (Bm b nn : Nat) (hnn : nn ≤ 1000) (D0 : DataW Value) (f : Int → Option Value) (hrf : ReadsF D0 f) (hsl : ∀ x v, f x = some v → ∃ h : HdI, v = hdVI h) (w : World) (hBm : Bm < w.heap.size)
    (hm : w.cell? ⟨Bm, 0, none⟩ = some (.map (some b))) (hown : w.ownsMap Tryz.prog 2 heldElem b nn D0) :
    CallsIn F n Tryz.prog 74 #[.func (.func 75) #[] #[.pointer (some ⟨Bm, 0, none⟩)]] w fun e W' => ∃ v hs, e = .returned v ∧ AllV f hs ∧ W'.ownsRow w.heap.size 48 1 v hs.length (hs.map hdVI) ∧ Below w.heap.size w W' := by
  have h1 : 1 ≤ n := by omega
  refine callsIn_of_wp Tryz.func74 rfl h74 ?_ hro
  simp only [Tryz.ntmps74, List.size_toArray, List.length_cons, List.length_nil, Nat.reduceAdd, Nat.reduceSub, Array.replicate_succ, Array.replicate_zero, List.push_toArray, List.append_toArray, List.nil_append, List.cons_append]
  gi_wp2_with (gi_at_call 96; refine (appendSeq_in F (n - 1) h96 h75 hro (by omega) Bm b nn hnn D0 f hrf hsl w hBm hm hown).mono ?_; rintro e w' ⟨v, hs, rfl, hS, hrow, hb⟩)
  go_ret
  exact ⟨v, hs, rfl, hS, hrow, hb⟩
theorem collect_any (Bm b nn : Nat) (hnn : nn ≤ 1000) (f : Int → Option Value) (hsl : ∀ x v, f x = some v → ∃ h : HdI, v = hdVI h) (w : World)
    (hm : w.cell? ⟨Bm, 0, none⟩ = some (.map (some b))) (hown : MapV Tryz.prog 2 w b nn f) :
    Calls Tryz.prog 74 #[.func (.func 75) #[] #[.pointer (some ⟨Bm, 0, none⟩)]] w fun e W' => ∃ v hs, e = .returned v ∧ AllV f hs ∧ W'.ownsRow w.heap.size 48 1 v hs.length (hs.map hdVI) ∧ Below w.heap.size w W' := by
  obtain ⟨D, hD, hr⟩ := hown
  exact callsIn_wide.1 (collect_in Fence.wide 4 trivial trivial trivial rfl (Nat.le_refl _) Bm b nn hnn D f hr hsl w (World.block_lt_of_cell? w _ hm) hm hD)
theorem valuesFn_any (b : Option Nat) (w : World) : Calls Tryz.prog 48 #[.map b] w fun e w' => e = .returned (.func (.func 75) #[] #[.pointer (some ⟨w.heap.size, 0, none⟩)]) ∧ w' = w.alloc (.cells #[.map b] 61) := by
  go_enter Tryz.func48, Tryz.ntmps48
  go_wp2_with fail
  go_ret
  exact ⟨rfl, rfl⟩
end Go.Proofs.YtmhkcicjbgifnaaGreat
