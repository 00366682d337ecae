/- Walks of the functions on models as structs by value, and of IsModel. -/
import Derived.Test.YtjjnnlfcdncefaaFrame
import Derived.Test.YtjjnnlfcdncefaaOpenS
namespace Go.Proofs.Ytjjnnlfcdncefaa
open Go.RowKit

/-- A struct of a frame and a list. -/
def MV (w : World) (v : Value) (n : Int) (xs ys : List Int) : Prop := ∃ a c a' c', v = .agg #[.int .i64 n, .slice a xs.length c, .slice a' ys.length c'] ∧ Ints w (.slice a xs.length c) xs ∧ Ints w (.slice a' ys.length c') ys
theorem MV.below {w w' : World} {v : Value} {n : Int} {xs ys : List Int} {K : Nat} (h : MV w v n xs ys) (hb : Below K w w') (hk : w.heap.size ≤ K) : MV w' v n xs ys := by
  obtain ⟨a, c, a', c', hv, hi, hi'⟩ := h
  exact ⟨a, c, a', c', hv, hi.below hb hk, hi'.below hb hk⟩
theorem mv_of_own {w : World} {B B' : Nat} {e e' : TypeId} {v v' : Value} {n : Int} {xs ys : List Int} (h : w.ownsRow B e 1 v xs.length (xs.map (Value.int .i64))) (h' : w.ownsRow B' e' 1 v' ys.length (ys.map (Value.int .i64))) : MV w (.agg #[.int .i64 n, v, v']) n xs ys := by
  have hi := ints_of_own h
  have hi' := ints_of_own h'
  obtain ⟨_, a, c, b, o, rfl, _⟩ := hi.opened
  obtain ⟨_, a', c', b', o', rfl, _⟩ := hi'.opened
  exact ⟨a, c, a', c', rfl, hi, hi'⟩
theorem box3_cells (w : World) (x y z : Value) (t : TypeId) : (w.alloc (.cells #[x, y, z] t)).cell? ⟨w.heap.size, 0, none⟩ = some x ∧ (w.alloc (.cells #[x, y, z] t)).cell? ⟨w.heap.size, 1, none⟩ = some y ∧ (w.alloc (.cells #[x, y, z] t)).cell? ⟨w.heap.size, 2, none⟩ = some z := by
  refine ⟨?_, ?_, ?_⟩ <;> (rw [World.cell?_alloc_at _ _ _ _ rfl]; rfl)

set_option maxHeartbeats 800000 in
theorem szModel_bad1 (v : Value) (n : Int) (xs ys : List Int) (l : Int) (w : World) (h : MV w v n xs ys) (h0 : 0 ≤ l) (h1 : l ≤ 1048576) (hlt : l < (xs.length : Nat)) :
    Calls Try.prog 22 #[v, .int .i64 l] w fun e w' => e = .returned (.int .i64 (-1)) ∧ Below w.heap.size w w' := by
  obtain ⟨a, c, a', c', rfl, hi, hi'⟩ := h
  have hba := (Below.refl w.heap.size w).alloc (Nat.le_refl _) (.cells #[.int .i64 n, .slice a xs.length c, .slice a' ys.length c'] 40)
  have hp := Lib.hid (show Pair (w.alloc (.cells #[.int .i64 n, .slice a xs.length c, .slice a' ys.length c'] 40)) (.agg #[.int .i64 n, .slice a xs.length c]) n xs from ⟨a, c, rfl, hi.below hba (Nat.le_refl _)⟩)
  have hba := Lib.hid hba
  have hf := Lib.hid (szRI_lt hlt)
  go_enter Try.func22, Try.ntmps22
  go_wp2_with fail
  refine (szFrame_any _ n xs _ _ hp.out h0 h1).mono ?_
  rintro e w1 ⟨rfl, b1⟩
  rw [hf.out]
  go_wp2_with fail
  go_ret
  exact ⟨rfl, hba.out.trans (b1.mono (by simp))⟩

set_option maxHeartbeats 800000 in
theorem szModel_two (v : Value) (n : Int) (xs ys : List Int) (l : Int) (w : World) (h : MV w v n xs ys) (h0 : 0 ≤ l) (h1 : l ≤ 1048576) (hge : (xs.length : Int) ≤ l) :
    Calls Try.prog 22 #[v, .int .i64 l] w fun e w' => e = .returned (.int .i64 (szRI (l - (xs.length : Nat)) ys.length)) ∧ Below w.heap.size w w' := by
  obtain ⟨a, c, a', c', rfl, hi, hi'⟩ := h
  have hba := (Below.refl w.heap.size w).alloc (Nat.le_refl _) (.cells #[.int .i64 n, .slice a xs.length c, .slice a' ys.length c'] 40)
  have hp := Lib.hid (show Pair (w.alloc (.cells #[.int .i64 n, .slice a xs.length c, .slice a' ys.length c'] 40)) (.agg #[.int .i64 n, .slice a xs.length c]) n xs from ⟨a, c, rfl, hi.below hba (Nat.le_refl _)⟩)
  have hi2 := Lib.hid (hi'.below hba (Nat.le_refl _))
  obtain ⟨_, _, hx2⟩ := box3_cells w (.int .i64 n) (.slice a xs.length c) (.slice a' ys.length c') 40
  have hba := Lib.hid hba
  have hf := Lib.hid (szRI_ge hge)
  by_cases hlt : l - (xs.length : Nat) < (ys.length : Nat)
  · have hf2 := Lib.hid (szRI_lt hlt)
    go_enter Try.func22, Try.ntmps22
    go_wp2_with fail
    generalize w.alloc (.cells #[.int .i64 n, .slice a xs.length c, .slice a' ys.length c'] 40) = W0 at *
    refine (szFrame_any _ n xs _ _ hp.out h0 h1).mono ?_
    rintro e w1 ⟨rfl, b1⟩
    rw [hf.out]
    have hx2 := keep_cell b1 hx2
    go_wp2_with fail
    refine (szInt64S_any _ ys _ _ (hi2.out.below b1 (Nat.le_refl _)) (by omega) (by omega)).mono ?_
    rintro e w' ⟨rfl, rfl⟩
    rw [hf2.out]
    go_wp2_with fail
    go_ret
    exact ⟨ret_int hf2.out.symm, hba.out.trans (b1.mono hba.out.size)⟩
  · have hge2 : ((ys.length : Nat) : Int) ≤ l - (xs.length : Nat) := by omega
    have hf2 := Lib.hid (szRI_ge hge2)
    go_enter Try.func22, Try.ntmps22
    go_wp2_with fail
    generalize w.alloc (.cells #[.int .i64 n, .slice a xs.length c, .slice a' ys.length c'] 40) = W0 at *
    refine (szFrame_any _ n xs _ _ hp.out h0 h1).mono ?_
    rintro e w1 ⟨rfl, b1⟩
    rw [hf.out]
    have hx2 := keep_cell b1 hx2
    go_wp2_with fail
    refine (szInt64S_any _ ys _ _ (hi2.out.below b1 (Nat.le_refl _)) (by omega) (by omega)).mono ?_
    rintro e w' ⟨rfl, rfl⟩
    rw [hf2.out]
    go_wp2_with fail
    go_ret
    exact ⟨ret_int hf2.out.symm, hba.out.trans (b1.mono hba.out.size)⟩

set_option maxHeartbeats 1600000 in
theorem toModel_any (v : Value) (n : Int) (xs ys : List Int) (w : World) (h : MV w v n xs ys) (hn : xs.length ≤ 1048576) (hn' : ys.length ≤ 1048576) :
    Calls Try.prog 24 #[v] w fun e w' => ∃ v1 v2, e = .returned (.agg #[.int .i64 n, v1, v2]) ∧ w'.ownsRow w.heap.size 2 1 v1 xs.length (xs.map (Value.int .i64)) ∧ w'.ownsRow w.heap.size 2 1 v2 ys.length (ys.map (Value.int .i64)) ∧ Below w.heap.size w w' := by
  obtain ⟨a, c, a', c', rfl, hi, hi'⟩ := h
  have hi := Lib.hid hi
  have hi' := Lib.hid hi'
  go_enter Try.func24, Try.ntmps24
  go_wp2_with fail
  have hb0 := Lib.hid ((((Below.refl w.heap.size w).alloc (Nat.le_refl _) (.cells #[.int .i64 n, .slice a xs.length c, .slice a' ys.length c'] 40)).alloc (by simp) (.cells #[.int .i64 0, .slice none 0 0, .slice none 0 0] 44)).alloc (by simp; omega) (.cells #[.int .i64 0, .slice none 0 0, .slice none 0 0] 44))
  refine (toFrame_any _ n xs _ ⟨a, c, rfl, hi.out.below hb0.out (Nat.le_refl _)⟩ hn).mono ?_
  rintro e w1 ⟨v1, rfl, ho1, b1⟩
  obtain ⟨hc, hf⟩ := bcell b1
  have hz : w.heap.size + 3 ≤ w1.heap.size := by have := b1.size; simp at this; omega
  obtain ⟨_, a2, c2, bb2, o2, rfl, _⟩ := (ints_of_own ho1).opened
  have ho1 := own_mono ho1 (show w.heap.size + 3 ≤ _ by simp <;> omega)
  have hB1 := hb0.out.trans (b1.mono (by simp <;> omega))
  have ho1 := Lib.hid ho1
  have hB1 := Lib.hid hB1
  have hb1 := Lib.hid b1
  clear b1
  go_wp2_with fail
  have z0 : w.heap.size < w1.heap.size := by omega
  have z1 : w.heap.size + 1 < w1.heap.size := by omega
  have z2 : w.heap.size + 1 + 1 < w1.heap.size := by omega
  have hB2 := (hB1.out.setCell (show w.heap.size ≤ (⟨w.heap.size + 1 + 1, 0, none⟩ : Addr).block by simp <;> omega) (.int .i64 n)).setCell (show w.heap.size ≤ (⟨w.heap.size + 1 + 1, 1, none⟩ : Addr).block by simp <;> omega) (.slice a2 xs.length c2)
  have ho1 := own_set_other (x := .slice a2 xs.length c2) (o := 1) (own_set_other (x := .int .i64 n) (o := 0) ho1.out (show w.heap.size + 1 + 1 < w.heap.size + 3 by omega)) (show w.heap.size + 1 + 1 < w.heap.size + 3 by omega)
  obtain ⟨W2, hW2⟩ : ∃ W2, W2 = (w1.setCell ⟨w.heap.size + 1 + 1, 0, none⟩ (.int .i64 n)).setCell ⟨w.heap.size + 1 + 1, 1, none⟩ (.slice a2 xs.length c2) := ⟨_, rfl⟩
  have f0 : W2.cell? ⟨w.heap.size + 1 + 1, 0, none⟩ = some (.int .i64 n) := by rw [hW2]; simp [hc, go_sem]
  have f1 : W2.cell? ⟨w.heap.size + 1 + 1, 1, none⟩ = some (.slice a2 xs.length c2) := by rw [hW2]; simp [hc, go_sem]
  have f2 : W2.cell? ⟨w.heap.size + 1 + 1, 2, none⟩ = some (.slice none 0 0) := by rw [hW2]; simp [hc, go_sem]
  have g0 : W2.cell? ⟨w.heap.size + 1, 0, none⟩ = some (.int .i64 0) := by rw [hW2]; simp [hc, go_sem]
  have g1 : W2.cell? ⟨w.heap.size + 1, 1, none⟩ = some (.slice none 0 0) := by rw [hW2]; simp [hc, go_sem]
  have g2 : W2.cell? ⟨w.heap.size + 1, 2, none⟩ = some (.slice none 0 0) := by rw [hW2]; simp [hc, go_sem]
  have i0 : W2.frozen? ⟨w.heap.size + 1 + 1, 2, none⟩ = false := by rw [hW2]; simp [hf, go_sem]
  have j0 : W2.frozen? ⟨w.heap.size + 1, 0, none⟩ = false := by rw [hW2]; simp [hf, go_sem]
  have j1 : W2.frozen? ⟨w.heap.size + 1, 1, none⟩ = false := by rw [hW2]; simp [hf, go_sem]
  have j2 : W2.frozen? ⟨w.heap.size + 1, 2, none⟩ = false := by rw [hW2]; simp [hf, go_sem]
  have zz : w.heap.size + 3 ≤ W2.heap.size := by rw [hW2]; simp; omega
  rw [← hW2] at hB2 ho1 ⊢
  clear hW2 hc hf hB1 hb1 z0 z1 z2 hz
  have hB2 := Lib.hid hB2
  have ho1 := Lib.hid ho1
  refine (toInt64S_any _ ys _ (hi'.out.below hB2.out (Nat.le_refl _)) hn').mono ?_
  rintro e w2 ⟨v2, rfl, ho2, b2⟩
  obtain ⟨_, a3, c3, bb3, o3, rfl, _⟩ := (ints_of_own ho2).opened
  have f0 := keep_cell b2 f0
  have f1 := keep_cell b2 f1
  have f2 := keep_cell b2 f2
  have g0 := keep_cell b2 g0
  have g1 := keep_cell b2 g1
  have g2 := keep_cell b2 g2
  have i0 := (b2.frozen (p := ⟨w.heap.size + 1 + 1, 2, none⟩) (by simp; omega)).trans i0
  have j0 := (b2.frozen (p := ⟨w.heap.size + 1, 0, none⟩) (by simp; omega)).trans j0
  have j1 := (b2.frozen (p := ⟨w.heap.size + 1, 1, none⟩) (by simp; omega)).trans j1
  have j2 := (b2.frozen (p := ⟨w.heap.size + 1, 2, none⟩) (by simp; omega)).trans j2
  have ho1 := Lib.hid (own_below ho1.out b2 (Nat.le_refl _))
  have ho2 := own_mono ho2 zz
  have hB3 := Lib.hid (hB2.out.trans (b2.mono hB2.out.size))
  have ho2 := Lib.hid ho2
  have b2 := Lib.hid b2
  go_wp2_with fail
  refine bodyPost_ret (v := .agg #[.int .i64 n, .slice a2 xs.length c2, .slice a3 ys.length c3]) (by simp [results, Try.results24, go_sem, f0, f1, f2, g0, g1, g2]) rfl ⟨_, _, rfl, ?_, ?_, ?_⟩
  · refine own_mono (own_set_other (own_set_other (own_set_other (own_set_other ho1.out ?_) ?_) ?_) ?_) (by omega) <;> omega
  · refine own_mono (own_set_other (own_set_other (own_set_other (own_set_other ho2.out ?_) ?_) ?_) ?_) (by omega) <;> omega
  · exact ((((hB3.out).setCell (by simp; omega) _).setCell (by simp) _).setCell (by simp) _).setCell (by simp) _

theorem eqModel_same (v u : Value) (n : Int) (xs ys : List Int) (w : World) (h : MV w v n xs ys) (h' : MV w u n xs ys) :
    Calls Try.prog 26 #[v, u] w fun e w' => e = .returned (.bool true) ∧ Below w.heap.size w w' := by
  obtain ⟨a, c, a', c', rfl, hi, hi'⟩ := h
  obtain ⟨b, d, b', d', rfl, hj, hj'⟩ := h'
  have hb0 := (((Below.refl w.heap.size w).alloc (Nat.le_refl _) (.cells #[.int .i64 n, .slice a xs.length c, .slice a' ys.length c'] 44)).alloc (by simp) (.cells #[.int .i64 n, .slice b xs.length d, .slice b' ys.length d'] 44))
  have h1 := Lib.hid (show Pair _ _ n xs from ⟨a, c, rfl, hi.below hb0 (Nat.le_refl _)⟩)
  have h2 := Lib.hid (show Pair _ _ n xs from ⟨b, d, rfl, hj.below hb0 (Nat.le_refl _)⟩)
  have k1 := Lib.hid (hi'.below hb0 (Nat.le_refl _))
  have k2 := Lib.hid (hj'.below hb0 (Nat.le_refl _))
  have hb0 := Lib.hid hb0
  go_enter Try.func26, Try.ntmps26
  go_wp2_with fail
  refine (eqFrame_same _ _ n xs _ h1.out h2.out).mono ?_
  rintro e w1 ⟨rfl, b1⟩
  obtain ⟨hc, hf⟩ := bcell b1
  have hz : w.heap.size + 2 ≤ w1.heap.size := by have := b1.size; simp at this; omega
  have b1 := Lib.hid b1
  go_wp2_with fail
  refine (eqInt64S_same _ _ ys _ (k1.out.below b1.out (Nat.le_refl _)) (k2.out.below b1.out (Nat.le_refl _))).mono ?_
  rintro e w2 ⟨rfl, b2⟩
  go_wp2_with fail
  go_ret
  exact ⟨rfl, hb0.out.trans ((b1.out.trans (b2.mono b1.out.size)).mono (by simp; omega))⟩

/-- Whether a struct is a model. -/
def modelB (n : Int) (xs ys : List Int) : Bool := frameB n xs && (((ys.length : Int) == 6) && masksB n ys)
theorem model_cases (n : Int) (xs ys : List Int) : (frameB n xs = false ∧ modelB n xs ys = false) ∨ (frameB n xs = true ∧ ((ys.length : Int) == 6) = false ∧ modelB n xs ys = false) ∨ (frameB n xs = true ∧ ((ys.length : Int) == 6) = true ∧ modelB n xs ys = masksB n ys) := by
  unfold modelB
  cases frameB n xs <;> cases ((ys.length : Int) == 6) <;> simp
theorem frame_range {n : Int} {xs : List Int} (h : frameB n xs = true) : 0 ≤ n ∧ n ≤ 8 := by
  unfold frameB at h
  have := (Bool.and_eq_true _ _).mp h
  exact inR_iff.1 this.1
theorem masks_any (n : Int) (ys : List Int) : (!(ys.any fun x => !isMaskB n x)) = masksB n ys := by unfold masksB; rw [List.not_any_eq_all_not]; simp

theorem isModel1_any (x n : Int) (bx : Nat) (w : World) (hb : w.cell? ⟨bx, 0, none⟩ = some (.int .i64 n)) :
    Calls Try.prog 87 #[.int .i64 x, .pointer (some ⟨bx, 0, none⟩)] w fun e w' => e = .returned (.bool (!isMaskB n x)) ∧ w = w' := by
  go_enter Try.func87, Try.ntmps87
  go_wp2_with (first | (go_at_call 88; refine (isMask_any _ _ _).mono ?_; rintro e w' ⟨rfl, rfl⟩))
  go_ret
  exact ⟨rfl, rfl⟩

set_option maxHeartbeats 800000 in
theorem isModel_any (v : Value) (n : Int) (xs ys : List Int) (w : World) (h : MV w v n xs ys) :
    Calls Try.prog 53 #[v] w fun e w' => e = .returned (.bool (modelB n xs ys)) ∧ Below w.heap.size w w' := by
  obtain ⟨a, c, a', c', rfl, hi, hi'⟩ := h
  have hm := hi'.cap
  unfold maxLen at hm
  have hba := (Below.refl w.heap.size w).alloc (Nat.le_refl _) (.cells #[.int .i64 n, .slice a xs.length c, .slice a' ys.length c'] 44)
  have hp := Lib.hid (show Pair (w.alloc (.cells #[.int .i64 n, .slice a xs.length c, .slice a' ys.length c'] 44)) (.agg #[.int .i64 n, .slice a xs.length c]) n xs from ⟨a, c, rfl, hi.below hba (Nat.le_refl _)⟩)
  have hi2 := Lib.hid (hi'.below hba (Nat.le_refl _))
  obtain ⟨hx0, hx1, hx2⟩ := box3_cells w (.int .i64 n) (.slice a xs.length c) (.slice a' ys.length c') 44
  have hxs : w.heap.size < (w.alloc (.cells #[.int .i64 n, .slice a xs.length c, .slice a' ys.length c'] 44)).heap.size := by simp
  have hma := Lib.hid (masks_any n ys)
  rcases model_cases n xs ys with ⟨h1, h2⟩ | ⟨h1, h3, h2⟩ | ⟨h1, h3, h2⟩
  all_goals
    have hf := Lib.hid h2
    have hfr := Lib.hid h1
    clear h1 h2
    go_enter Try.func53, Try.ntmps53
    go_wp2_with fail
    generalize w.alloc (.cells #[.int .i64 n, .slice a xs.length c, .slice a' ys.length c'] 44) = W0 at *
    refine (isFrame_any _ n xs _ hp.out).mono ?_
    rintro e w1 ⟨rfl, b1⟩
    rw [hfr.out]
    have hx0 := keep_cell b1 hx0
    have hx1 := keep_cell b1 hx1
    have hx2 := keep_cell b1 hx2
    go_wp2_with fail
  · go_ret
    exact ⟨ret_bool hf.out.symm, hba.trans (b1.mono hba.size)⟩
  · go_ret
    exact ⟨ret_bool hf.out.symm, hba.trans (b1.mono hba.size)⟩
  · have hpred : Pred Try.prog 87 #[.pointer (some ⟨w.heap.size, 0, none⟩)] (Value.int .i64) ys (fun x => !isMaskB n x) w1 := by
      intro W x _ hb _
      refine (isModel1_any x n w.heap.size W ((hb.cell (p := ⟨w.heap.size, 0, none⟩) (World.block_lt_of_cell? _ _ hx0)).trans hx0)).mono ?_
      rintro e w' ⟨rfl, rfl⟩
      exact ⟨rfl, Below.refl _ _⟩
    refine (containsFuncI_any 87 _ (enters_of Try.func87 (by kernel_rfl) rfl) _ ys _ _ (hi2.out.below b1 (Nat.le_refl _)) hpred).mono ?_
    rintro e w2 ⟨rfl, b2⟩
    go_wp2_with fail
    go_ret
    exact ⟨ret_bool (hma.out.trans hf.out.symm), hba.trans ((b1.trans (b2.mono b1.size)).mono hba.size)⟩

theorem implIsModel_any (v : Value) (n : Int) (xs ys : List Int) (w : World) (h : MV w v n xs ys) :
    Calls Try.prog 25 #[v] w fun e w' => e = .returned (.bool (modelB n xs ys)) ∧ Below w.heap.size w w' := by
  obtain ⟨a, c, a', c', rfl, hi, hi'⟩ := h
  have hba := (Below.refl w.heap.size w).alloc (Nat.le_refl _) (.cells #[.int .i64 n, .slice a xs.length c, .slice a' ys.length c'] 44)
  have hp := Lib.hid (show MV (w.alloc (.cells #[.int .i64 n, .slice a xs.length c, .slice a' ys.length c'] 44)) (.agg #[.int .i64 n, .slice a xs.length c, .slice a' ys.length c']) n xs ys from ⟨a, c, a', c', rfl, hi.below hba (Nat.le_refl _), hi'.below hba (Nat.le_refl _)⟩)
  have hba := Lib.hid hba
  go_enter Try.func25, Try.ntmps25
  go_wp2_with fail
  refine (isModel_any _ n xs ys _ hp.out).mono ?_
  rintro e w1 ⟨rfl, b1⟩
  go_wp2_with fail
  go_ret
  exact ⟨rfl, hba.out.trans (b1.mono (by simp))⟩

set_option maxHeartbeats 800000 in
theorem l06Is_any (v : Value) (n : Int) (xs ys : List Int) (w : World) (h : MV w v n xs ys) :
    Calls Try.prog 52 #[v] w fun e w' => e = .returned (.bool (modelB n xs ys)) ∧ Below w.heap.size w w' := by
  obtain ⟨a, c, a', c', rfl, hi, hi'⟩ := h
  have hm := hi'.cap
  unfold maxLen at hm
  have hba := (Below.refl w.heap.size w).alloc (Nat.le_refl _) (.cells #[.int .i64 n, .slice a xs.length c, .slice a' ys.length c'] 44)
  have hp := Lib.hid (show Pair (w.alloc (.cells #[.int .i64 n, .slice a xs.length c, .slice a' ys.length c'] 44)) (.agg #[.int .i64 n, .slice a xs.length c]) n xs from ⟨a, c, rfl, hi.below hba (Nat.le_refl _)⟩)
  have hi2 := Lib.hid (hi'.below hba (Nat.le_refl _))
  obtain ⟨hx0, hx1, hx2⟩ := box3_cells w (.int .i64 n) (.slice a xs.length c) (.slice a' ys.length c') 44
  have hfr2 := Lib.hid (fun h => frame_range (n := n) (xs := xs) h)
  rcases model_cases n xs ys with ⟨h1, h2⟩ | ⟨h1, h3, h2⟩ | ⟨h1, h3, h2⟩
  all_goals
    have hf := Lib.hid h2
    have hfr := Lib.hid h1
    clear h1 h2
    go_enter Try.func52, Try.ntmps52
    go_wp2_with fail
    generalize w.alloc (.cells #[.int .i64 n, .slice a xs.length c, .slice a' ys.length c'] 44) = W0 at *
    refine (l05Is_any _ n xs _ hp.out).mono ?_
    rintro e w1 ⟨rfl, b1⟩
    rw [hfr.out]
    have hx0 := keep_cell b1 hx0
    have hx1 := keep_cell b1 hx1
    have hx2 := keep_cell b1 hx2
    go_wp2_with fail
  · go_ret
    exact ⟨ret_bool hf.out.symm, hba.trans (b1.mono hba.size)⟩
  · go_ret
    exact ⟨ret_bool hf.out.symm, hba.trans (b1.mono hba.size)⟩
  · obtain ⟨n0, n8⟩ := hfr2.out hfr.out
    refine (l01Masks_any n n0 (by omega) _ ys _ (hi2.out.below b1 (Nat.le_refl _))).mono ?_
    rintro e w2 ⟨rfl, b2⟩
    go_wp2_with fail
    go_ret
    exact ⟨ret_bool hf.out.symm, hba.trans ((b1.trans (b2.mono b1.size)).mono hba.size)⟩

theorem specIsModel_any (v : Value) (n : Int) (xs ys : List Int) (w : World) (h : MV w v n xs ys) :
    Calls Try.prog 23 #[v] w fun e w' => e = .returned (.bool (modelB n xs ys)) ∧ Below w.heap.size w w' := by
  obtain ⟨a, c, a', c', rfl, hi, hi'⟩ := h
  have hba := (Below.refl w.heap.size w).alloc (Nat.le_refl _) (.cells #[.int .i64 n, .slice a xs.length c, .slice a' ys.length c'] 44)
  have hp := Lib.hid (show MV (w.alloc (.cells #[.int .i64 n, .slice a xs.length c, .slice a' ys.length c'] 44)) (.agg #[.int .i64 n, .slice a xs.length c, .slice a' ys.length c']) n xs ys from ⟨a, c, a', c', rfl, hi.below hba (Nat.le_refl _), hi'.below hba (Nat.le_refl _)⟩)
  have hba := Lib.hid hba
  go_enter Try.func23, Try.ntmps23
  go_wp2_with fail
  refine (l06Is_any _ n xs ys _ hp.out).mono ?_
  rintro e w1 ⟨rfl, b1⟩
  go_wp2_with fail
  go_ret
  exact ⟨rfl, hba.out.trans (b1.mono (by simp))⟩
end Go.Proofs.Ytjjnnlfcdncefaa
