/- The law's own walk of IsModel, and what its argument reads as. -/
import Derived.Test.YtjjnnlfcdncefaaModel
import Derived.Deep.RegionHeld3
namespace Go.Proofs.Ytjjnnlfcdncefaa
open Go.RowKit

section
open Go.ChangeShapes Go.WideShapes Go.ChangeAt Go.Deep Go.Joins
theorem open_model_arg {H : Type} {enc : TypeId × Value → H} {W : World} {r : Reach} {b0 : Nat} {v : Value} {d : DataW H} {p : List MemPlace} (hv : Value.okWide Try.prog W r b0 40 v) (h : DataW.Trod enc Try.prog W 0 (fun _ => true) true 40 v d p) : ∃ a : Int × List Int × List Int, MV W v a.1 a.2.1 a.2.2 := by
  obtain ⟨cs, rfl, hsz⟩ := okWide_struct Try.underlying40 hv
  have hsz : cs.size = 3 := hsz.trans (by kernel_rfl)
  obtain ⟨c0, c1, c2, rfl⟩ : ∃ c0 c1 c2, cs = #[c0, c1, c2] := by
    match cs, hsz with
    | ⟨[c0, c1, c2]⟩, _ => exact ⟨c0, c1, c2, rfl⟩
  obtain ⟨fuel, hf⟩ := h
  obtain ⟨y0, y1, m, _, _, h0, h1⟩ := trod_struct2 Try.underlying40 hf
  have k0 : Try.prog.cellsOf 24 = 2 := by kernel_rfl
  have k1 : Try.prog.cellsOf 22 = 1 := by kernel_rfl
  have k2 : Try.prog.cellsOf 2 = 1 := by kernel_rfl
  have h0 : DataW.trod enc Try.prog W 0 (fun _ => true) true m 24 [c0, c1] = some y0 := by simpa [Value.cells, k0] using h0
  have h1 : DataW.trod enc Try.prog W 0 (fun _ => true) true m 22 [c2] = some y1 := by simpa [Value.cells, k1] using h1
  obtain ⟨z0, z1, m', _, _, g0, g1⟩ := trod_struct2 Try.underlying24 h0
  have g0 : DataW.trod enc Try.prog W 0 (fun _ => true) true m' 2 [c0] = some z0 := by simpa [k2] using g0
  have g1 : DataW.trod enc Try.prog W 0 (fun _ => true) true m' 22 [c1] = some z1 := by simpa [k1] using g1
  obtain ⟨n, e0, _, _⟩ := DataW.trod_int Try.underlying2 g0
  obtain ⟨a, len, cap, xs, rfl, hx⟩ := open_IntsC Try.underlying22 Try.underlying2 (by kernel_rfl) g1
  obtain ⟨a', len', cap', ys, rfl, hy⟩ := open_IntsC Try.underlying22 Try.underlying2 (by kernel_rfl) h1
  simp at e0
  subst e0
  obtain ⟨_, _, _, _, _, he', _⟩ := hx.opened
  injection he' with _ h2 _
  subst h2
  obtain ⟨_, _, _, _, _, he', _⟩ := hy.opened
  injection he' with _ h3 _
  subst h3
  exact ⟨(n, xs, ys), a, cap, a', cap', rfl, hx, hy⟩
end

set_option maxHeartbeats 2000000 in
theorem w_FnExactIsModel (v : Value) (p : Int × List Int × List Int) (w : World) (h : MV w v p.1 p.2.1 p.2.2) :
    Calls Try.prog 5 #[v] w fun e w' => e = .returned (.bool true) ∧ Below w.heap.size w w' := by
  obtain ⟨n, xs, ys⟩ := p
  obtain ⟨a, c, a', c', rfl, hi, hi'⟩ := h
  simp only at hi hi' ⊢
  have hba := (Below.refl w.heap.size w).alloc (Nat.le_refl _) (.cells #[.int .i64 n, .slice a xs.length c, .slice a' ys.length c'] 40)
  have hp := Lib.hid (show MV (w.alloc (.cells #[.int .i64 n, .slice a xs.length c, .slice a' ys.length c'] 40)) (.agg #[.int .i64 n, .slice a xs.length c, .slice a' ys.length c']) n xs ys from ⟨a, c, a', c', rfl, hi.below hba (Nat.le_refl _), hi'.below hba (Nat.le_refl _)⟩)
  have hx0 : (w.alloc (.cells #[.int .i64 n, .slice a xs.length c, .slice a' ys.length c'] 40)).cell? ⟨w.heap.size, 0, none⟩ = some (.int .i64 n) := by rw [World.cell?_alloc_at _ _ _ _ rfl]; rfl
  have hx1 : (w.alloc (.cells #[.int .i64 n, .slice a xs.length c, .slice a' ys.length c'] 40)).cell? ⟨w.heap.size, 1, none⟩ = some (.slice a xs.length c) := by rw [World.cell?_alloc_at _ _ _ _ rfl]; rfl
  have hx2 : (w.alloc (.cells #[.int .i64 n, .slice a xs.length c, .slice a' ys.length c'] 40)).cell? ⟨w.heap.size, 2, none⟩ = some (.slice a' ys.length c') := by rw [World.cell?_alloc_at _ _ _ _ rfl]; rfl
  have hxs : w.heap.size < (w.alloc (.cells #[.int .i64 n, .slice a xs.length c, .slice a' ys.length c'] 40)).heap.size := by simp
  have hspec := Lib.hid (fun v w h => specIsModel_any v n xs ys w h)
  have himpl := Lib.hid (fun v w h => implIsModel_any v n xs ys w h)
  generalize modelB n xs ys = B at *
  clear hi hi'
  by_cases hl : (1048576 : Int) < (xs.length : Nat)
  · go_enter Try.func5, Try.ntmps5
    go_wp2_with fail
    generalize w.alloc (.cells #[.int .i64 n, .slice a xs.length c, .slice a' ys.length c'] 40) = W0 at *
    refine (szModel_bad1 _ n xs ys _ _ hp.out (by omega) (by omega) hl).mono ?_
    rintro e w1 ⟨rfl, b1⟩
    go_wp2_with fail
    go_ret
    exact ⟨rfl, hba.trans (b1.mono hba.size)⟩
  have hge0 : (xs.length : Int) ≤ 1048576 := by omega
  by_cases hl2 : (1048576 : Int) - (xs.length : Nat) < (ys.length : Nat)
  · have hs := Lib.hid (szRI_lt hl2)
    go_enter Try.func5, Try.ntmps5
    go_wp2_with fail
    generalize w.alloc (.cells #[.int .i64 n, .slice a xs.length c, .slice a' ys.length c'] 40) = W0 at *
    refine (szModel_two _ n xs ys _ _ hp.out (by omega) (by omega) hge0).mono ?_
    rintro e w1 ⟨rfl, b1⟩
    rw [hs.out]
    go_wp2_with fail
    go_ret
    exact ⟨rfl, hba.trans (b1.mono hba.size)⟩
  · have hge : ((ys.length : Nat) : Int) ≤ (1048576 : Int) - (xs.length : Nat) := by omega
    have hs := Lib.hid (szRI_ge hge)
    go_enter Try.func5, Try.ntmps5
    go_wp2_with fail
    generalize w.alloc (.cells #[.int .i64 n, .slice a xs.length c, .slice a' ys.length c'] 40) = W0 at *
    refine (szModel_two _ n xs ys _ _ hp.out (by omega) (by omega) hge0).mono ?_
    rintro e w1 ⟨rfl, b1⟩
    rw [hs.out]
    have hx0 := keep_cell b1 hx0
    have hx1 := keep_cell b1 hx1
    have hx2 := keep_cell b1 hx2
    go_wp2_with fail
    refine (toModel_any _ n xs ys _ (hp.out.below b1 (Nat.le_refl _)) (by omega) (by omega)).mono ?_
    rintro e w2 ⟨v2, v2', rfl, ho2, ho2', b2⟩
    have hx0 := keep_cell b2 hx0
    have hx1 := keep_cell b2 hx1
    have hx2 := keep_cell b2 hx2
    have B2 := b1.trans (b2.mono b1.size)
    have ho2 := Lib.hid ho2
    have ho2' := Lib.hid ho2'
    go_wp2_with fail
    refine (hspec.out _ _ (mv_of_own ho2.out ho2'.out)).mono ?_
    rintro e w3 ⟨rfl, b3⟩
    have hx0 := keep_cell b3 hx0
    have hx1 := keep_cell b3 hx1
    have hx2 := keep_cell b3 hx2
    have B3 := B2.trans (b3.mono B2.size)
    go_wp2_with fail
    refine (toModel_any _ n xs ys _ (hp.out.below B3 (Nat.le_refl _)) (by omega) (by omega)).mono ?_
    rintro e w4 ⟨v4, v4', rfl, ho4, ho4', b4⟩
    have hx0 := keep_cell b4 hx0
    have hx1 := keep_cell b4 hx1
    have hx2 := keep_cell b4 hx2
    have B4 := B3.trans (b4.mono B3.size)
    obtain ⟨_, a4, c4, bb4, o4, rfl, _⟩ := (ints_of_own ho4).opened
    obtain ⟨_, a5, c5, bb5, o5, rfl, _⟩ := (ints_of_own ho4').opened
    have hb5 := (Below.refl w4.heap.size w4).alloc (Nat.le_refl _) (.cells #[.int .i64 n, .slice a4 xs.length c4, .slice a5 ys.length c5] 44)
    have hp5 := Lib.hid (show MV (w4.alloc (.cells #[.int .i64 n, .slice a4 xs.length c4, .slice a5 ys.length c5] 44)) (.agg #[.int .i64 n, .slice a4 xs.length c4, .slice a5 ys.length c5]) n xs ys from ⟨a4, c4, a5, c5, rfl, (ints_of_own ho4).below hb5 (Nat.le_refl _), (ints_of_own ho4').below hb5 (Nat.le_refl _)⟩)
    have hy0 : (w4.alloc (.cells #[.int .i64 n, .slice a4 xs.length c4, .slice a5 ys.length c5] 44)).cell? ⟨w4.heap.size, 0, none⟩ = some (.int .i64 n) := by rw [World.cell?_alloc_at _ _ _ _ rfl]; rfl
    have hy1 : (w4.alloc (.cells #[.int .i64 n, .slice a4 xs.length c4, .slice a5 ys.length c5] 44)).cell? ⟨w4.heap.size, 1, none⟩ = some (.slice a4 xs.length c4) := by rw [World.cell?_alloc_at _ _ _ _ rfl]; rfl
    have hy2 : (w4.alloc (.cells #[.int .i64 n, .slice a4 xs.length c4, .slice a5 ys.length c5] 44)).cell? ⟨w4.heap.size, 2, none⟩ = some (.slice a5 ys.length c5) := by rw [World.cell?_alloc_at _ _ _ _ rfl]; rfl
    have B5 := B4.trans (hb5.mono B4.size)
    have hx0 := keep_cell hb5 hx0
    have hx1 := keep_cell hb5 hx1
    have hx2 := keep_cell hb5 hx2
    clear ho4 ho4'
    go_wp2_with fail
    generalize w4.alloc (.cells #[.int .i64 n, .slice a4 xs.length c4, .slice a5 ys.length c5] 44) = W5 at *
    refine (himpl.out _ _ hp5.out).mono ?_
    rintro e w6 ⟨rfl, b6⟩
    have hx0 := keep_cell b6 hx0
    have hx1 := keep_cell b6 hx1
    have hx2 := keep_cell b6 hx2
    have hy0 := keep_cell b6 hy0
    have hy1 := keep_cell b6 hy1
    have hy2 := keep_cell b6 hy2
    have B6 := B5.trans (b6.mono B5.size)
    have hp5 := Lib.hid (hp5.out.below b6 (Nat.le_refl _))
    have hp6 := Lib.hid (hp.out.below B6 (Nat.le_refl _))
    have hn6 : xs.length ≤ 1048576 := by omega
    have hn7 : ys.length ≤ 1048576 := by omega
    clear hb5 hp b1 b2 b3 b4 b6 B2 B3 B4 B5
    go_wp2_with fail
    go_region_held3 (fun W => Below w6.heap.size w6 W ∧ W.cell? ⟨w.heap.size, 0, none⟩ = some (.int .i64 n) ∧ W.cell? ⟨w.heap.size, 1, none⟩ = some (.slice a xs.length c) ∧ W.cell? ⟨w.heap.size, 2, none⟩ = some (.slice a' ys.length c') ∧ W.cell? ⟨w4.heap.size, 0, none⟩ = some (.int .i64 n) ∧ W.cell? ⟨w4.heap.size, 1, none⟩ = some (.slice a4 xs.length c4) ∧ W.cell? ⟨w4.heap.size, 2, none⟩ = some (.slice a5 ys.length c5)) (first | (refine ⟨?_, ?_, ?_, ?_, ?_, ?_, ?_⟩ <;> (first | assumption | (exact Below.drew (Below.refl _ _)) | (exact Below.drew (by assumption)))) | assumption | (obtain ⟨hs1, hs2, hs3, hs4, hs5, hs6, hs7⟩ := ‹Below _ _ _ ∧ _ ∧ _ ∧ _ ∧ _ ∧ _ ∧ _›; exact ⟨keep_step (by assumption) hs1, keep_cell (by assumption) hs2, keep_cell (by assumption) hs3, keep_cell (by assumption) hs4, keep_cell (by assumption) hs5, keep_cell (by assumption) hs6, keep_cell (by assumption) hs7⟩)) (first | (go_at_call 24; refine (toModel_any _ n xs ys _ (hp6.out.below (And.left ‹Below w6.heap.size w6 _ ∧ _ ∧ _ ∧ _ ∧ _ ∧ _ ∧ _›) (Nat.le_refl _)) hn6 hn7).mono ?_; rintro e w7 ⟨v7, v7', rfl, ho7, ho7', hb'⟩) | (go_at_call 26; refine (eqModel_same _ _ n xs ys _ (hp5.out.below (And.left ‹Below w6.heap.size w6 _ ∧ _ ∧ _ ∧ _ ∧ _ ∧ _ ∧ _›) (Nat.le_refl _)) (mv_of_own ho7 ho7')).mono ?_; rintro e w8 ⟨rfl, hb'⟩))
    all_goals
      go_wp2_with fail
      go_ret
      exact ⟨rfl, hba.trans (B6.trans ((And.left ‹Below w6.heap.size w6 _ ∧ _ ∧ _ ∧ _ ∧ _ ∧ _ ∧ _›).mono B6.size) |>.mono hba.size)⟩
end Go.Proofs.Ytjjnnlfcdncefaa
