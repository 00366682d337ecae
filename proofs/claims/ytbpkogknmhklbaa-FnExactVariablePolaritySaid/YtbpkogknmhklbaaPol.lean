/- Polarities of a formula's nodes; the walk of the reference. -/
import Derived.Test.YtbpkogknmhklbaaInts
import Derived.Test.YtbpkogknmhklbaaParts
import Derived.Test.YtbpkogknmhklbaaForm
import Derived.IntWalk
namespace Go.Proofs.Ytbpkogknmhklbaa
open Go.RowKit

/-- The polarities of the nodes of a formula. -/
def polT (s : Int) : Tr → List Int
  | .nil => []
  | .node _ _ n l r => s :: (polT (if n.1 = 4 then -s else s) l ++ polT s r)

theorem polT_len (t : Tr) : ∀ s, (polT s t).length = (flat t).length := by
  induction t with
  | nil => intro s; rfl
  | node b o n l r ihl ihr => intro s; simp [polT, flat, ihl, ihr]

theorem polT_one (t : Tr) : ∀ s, s = 1 ∨ s = -1 → ∀ q ∈ polT s t, q = 1 ∨ q = -1 := by
  induction t with
  | nil => intro s hs q hq; cases hq
  | node b o n l r ihl ihr =>
    intro s hs q hq
    simp only [polT, List.mem_cons, List.mem_append] at hq
    rcases hq with rfl | hq | hq
    · exact hs
    · exact ihl _ (by split <;> omega) q hq
    · exact ihr _ hs q hq

/-- What a row of one's own reads as, where it is not empty. -/
theorem own_slice {w : World} {B : Nat} {e : TypeId} {v : Value} {n : Nat} {xs : List Value} (h : w.ownsRow B e 1 v n xs) (hp : 0 < n) :
    ∃ g cap, v = .slice (some ⟨g, 0, none⟩) n cap ∧ ∀ j u, xs[j]? = some u → w.cell? ((⟨g, 0, none⟩ : Addr).add j) = some u := by
  have hl := h.1
  rcases h.2 with ⟨rfl, rfl⟩ | ⟨g, cap, cur, rfl, hb, hg, hnc, hcm, hcs, ht⟩
  · exact absurd hp (Nat.lt_irrefl _)
  · exact ⟨g, cap, rfl, fun i u hu => h.cells (g := g) rfl i u hu⟩

set_option maxHeartbeats 2000000 in
theorem l03Polarities_any (t : Tr) : ∀ (s : Int) (v : Value) (w : World), (s = 1 ∨ s = -1) → okT t → Nodes w v (flat t) → (flat t).length ≤ 1000000 →
    Calls Try.prog 91 #[v, .int .i64 s] w fun e w' => ∃ v', e = .returned v' ∧ w'.ownsRow w.heap.size 2 1 v' (polT s t).length ((polT s t).map (Value.int .i64)) ∧ Below w.heap.size w w' := by
  induction t with
  | nil => intro s v w _ h; exact h.elim
  | node b0 o0 n l r ihl ihr =>
    intro s v w hs ht h hn
    have IHL := Lib.hid ihl
    have IHR := Lib.hid ihr
    clear ihl ihr
    have hv := Lib.hid h
    obtain ⟨x, y⟩ := n
    have hlen : (flat (.node b0 o0 (x, y) l r)).length = 1 + (flat l).length + (flat r).length := by simp [flat]; omega
    obtain ⟨c, b, o, rfl, hc, hcm, hcell⟩ := h.raw (by omega)
    obtain ⟨hc0, hc1⟩ := node_head hcell.out
    have lb := World.block_lt_of_cell? w _ hc0
    clear h hcm
    simp only at hc0 hc1
    obtain ⟨i0, hi, hz0, hz1, hz2⟩ := info_parts info_i64
    have hl0 := Lib.hid (World.ownsRow_lit (e := 2) (base := w.heap.size) (size := 1) w #[.int .i64 s] 1 (Nat.le_refl _) (by simp [maxLen]) rfl)
    have hba := Lib.hid ((Below.refl w.heap.size w).alloc (Nat.le_refl _) (.cells #[.int .i64 s] 2))
    have hc0' := (hba.out.cell (p := ⟨b, o, none⟩) lb).trans hc0
    have hws : IntKind.i64.wrap (-s) = -s := by rcases hs with rfl | rfl <;> decide
    have hns : -s = 1 ∨ -s = -1 := by omega
    have hnsH := Lib.hid hns
    have hsH := Lib.hid hs
    have hsz0 : w.heap.size < (w.alloc (.cells #[.int .i64 s] 2)).heap.size := by simp
    clear hns hs lb hc1
    rcases ht with ⟨h1, rfl, rfl⟩ | ⟨h1, h2, rfl⟩ | ⟨h1, h2, h3⟩
    · simp only at h1
      have hp0 : 0 < (flat (.node b0 o0 (x, y) .nil .nil)).length := by omega
      have hP := Lib.hid (show polT s (.node b0 o0 (x, y) .nil .nil) = [s] from rfl)
      clear hlen hn hcell
      generalize (flat (.node b0 o0 (x, y) .nil .nil)).length = m at *
      go_enter Try.func91, Try.ntmps91
      go_wp2_with (go_at_call 78; refine (l02Parts_any _ _).mono ?_; rintro e w' ⟨rfl, rfl⟩)
      go_ret
      refine ⟨_, rfl, ?_, hba.out⟩
      rw [hP.out]
      exact hl0.out
    · simp only at h1
      have hx4 : x ≠ 4 := by rintro rfl; simp [ar] at h1
      have hP := Lib.hid (show polT s (.node b0 o0 (x, y) l .nil) = [s] ++ polT s l by simp [polT, hx4])
      have hL : (flat (.node b0 o0 (x, y) l .nil)).length = (flat l).length + 1 := by simp [flat]
      rw [hL] at hc hv ⊢
      have hll : (flat l).length ≤ 1000000 := by omega
      have hpl := flat_pos l h2
      have hc2 : 1 < c := by omega
      have htail := Lib.hid (node_tail (c := c - 1) (show ∀ j u, (cellsN ((x, y) :: flat l))[j]? = some u → w.cell? ⟨b, o + j, none⟩ = some u by simpa [flat] using hcell.out) (by omega) (by unfold maxLen; omega))
      have hpn := Lib.hid (polT_len l s)
      clear hlen hn hL hx4 hcell
      go_enter Try.func91, Try.ntmps91
      go_wp2_with (go_at_call 78; refine (l02Parts_any _ _).mono ?_; rintro e w' ⟨rfl, rfl⟩)
      refine (IHL.out s _ _ hsH.out h2 ?_ hll).mono ?_
      · exact htail.out.below hba.out (Nat.le_refl _)
      rintro e w2 ⟨v2, rfl, ho2, b2⟩
      obtain ⟨g2, k2, rfl, hs2⟩ := own_slice ho2 (by rw [hpn.out]; exact hpl)
      have ho1 := Lib.hid (own_below hl0.out b2 (Nat.le_refl _))
      have hs2 := Lib.hid hs2
      have B2 := Lib.hid (hba.out.trans (b2.mono (Nat.le_of_lt hsz0)))
      have z2 := b2.size
      have hLb : (polT s l).length ≤ 1000000 := by rw [hpn.out]; exact hll
      generalize polT s l = L at *
      have one := Lib.hid (ints_oneCell .i64 L)
      clear ho2 b2
      go_wp2_with (at_builtin; refine wpList_append_own _ rfl _ _ 33 rfl w.heap.size 2 i0 (.int .i64 0) 1 8 Try.underlying33 hi hz0 hz1 hz2 rfl (by decide) _ _ _ rfl ho1.out ⟨g2, 0, none⟩ L.length k2 (L.map (Value.int .i64)) rfl (by simp) hs2.out one.out (by unfold maxLen; omega) (by omega) (by omega) ?_; intro v3 w3 hown3 hgrow3 _)
      go_ret
      refine ⟨_, rfl, ?_, B2.out.grown hgrow3 (by omega) (fun j hj => (ho1.out.lt j hj).1)⟩
      rw [hP.out, List.map_append, List.length_append]
      exact hown3
    · simp only at h1
      have hnn : (flat l).length + (flat r).length ≤ 1000000 := by omega
      have hP := Lib.hid (show polT s (.node b0 o0 (x, y) l r) = ([s] ++ polT (if x = 4 then -s else s) l) ++ polT s r by simp [polT])
      have hpn := Lib.hid (polT_len l)
      have hpr := Lib.hid (polT_len r)
      have hpl := flat_pos l h2
      have hpr0 := flat_pos r h3
      have hp0 : 0 < (flat (.node b0 o0 (x, y) l r)).length := by omega
      have hleft := Lib.hid (fun W (hb : Below w.heap.size w W) => l02Left_any _ (x, y) l r W (hv.out.below hb (Nat.le_refl _)) h2 hnn)
      have hright := Lib.hid (fun W (hb : Below w.heap.size w W) => l02Right_any _ (x, y) l r W (hv.out.below hb (Nat.le_refl _)) h2 h3 hnn)
      have hxs : (x = 4 ∧ (if x = 4 then -s else s) = -s) ∨ ((x == 4) = false ∧ (if x = 4 then -s else s) = s) := by
        by_cases h : x = 4
        · exact .inl ⟨h, by rw [if_pos h]⟩
        · exact .inr ⟨by rw [beq_eq_false_iff_ne]; exact h, by rw [if_neg h]⟩
      clear hlen hn hcell
      generalize (flat (.node b0 o0 (x, y) l r)).length = m at *
      rcases hxs with ⟨rfl, hi4⟩ | ⟨hx4, hi4⟩
      all_goals
        have hi4 := Lib.hid hi4
        go_enter Try.func91, Try.ntmps91
        go_wp2_with (go_at_call 78; refine (l02Parts_any _ _).mono ?_; rintro e w' ⟨rfl, rfl⟩)
        refine (hleft.out _ hba.out).mono ?_
        rintro e w' ⟨⟨vl, rfl, hl⟩, rfl⟩
        have hl := Lib.hid hl
        go_wp2_with fail
        first
          | (have hx4' := hx4; have IHL' := Lib.hid (fun v w => IHL.out s v w hsH.out h2))
          | have IHL' := Lib.hid (fun v w => IHL.out (-s) v w hnsH.out h2)
        refine (IHL'.out _ _ hl.out (by omega)).mono ?_
        rintro e w2 ⟨v2, rfl, ho2, b2⟩
        obtain ⟨g2, k2, rfl, hs2⟩ := own_slice ho2 (by rw [hpn.out]; exact hpl)
        have ho1 := Lib.hid (own_below hl0.out b2 (Nat.le_refl _))
        have hs2 := Lib.hid hs2
        have B2 := Lib.hid (hba.out.trans (b2.mono (Nat.le_of_lt hsz0)))
        have z2 := b2.size
        rw [hi4.out] at hP
        have hLb : (polT s l).length ≤ 1000000 := by rw [hpn.out]; omega
        have hLb2 : (polT (-s) l).length ≤ 1000000 := by rw [hpn.out]; omega
        have hRb : (polT s r).length ≤ 1000000 := by rw [hpr.out]; omega
        clear ho2 b2 hi4
        have hP := Lib.hid hP.out
        first
          | (have hx4' := hx4; generalize polT s l = L at *)
          | generalize polT (-s) l = L at *
        have one := Lib.hid (ints_oneCell .i64 L)
        go_wp2_with (at_builtin; refine wpList_append_own _ rfl _ _ 33 rfl w.heap.size 2 i0 (.int .i64 0) 1 8 Try.underlying33 hi hz0 hz1 hz2 rfl (by decide) _ _ _ rfl ho1.out ⟨g2, 0, none⟩ L.length k2 (L.map (Value.int .i64)) rfl (by simp) hs2.out one.out (by unfold maxLen; omega) (by omega) (by omega) ?_; intro v3 w3 hown3 hgrow3 _)
        have B3 := Lib.hid (B2.out.grown hgrow3 (by omega) (fun j hj => (ho1.out.lt j hj).1))
        have z3 := hgrow3.size
        have ho3 := Lib.hid hown3
        clear hgrow3 hown3
        refine (hright.out _ B3.out).mono ?_
        rintro e w' ⟨⟨vr, rfl, hr⟩, rfl⟩
        have hr := Lib.hid hr
        go_wp2_with fail
        refine (IHR.out s _ _ hsH.out h3 hr.out (by omega)).mono ?_
        rintro e w4 ⟨v4, rfl, ho4, b4⟩
        obtain ⟨g4, k4, rfl, hs4⟩ := own_slice ho4 (by rw [hpr.out]; exact hpr0)
        have ho3 := Lib.hid (own_below ho3.out b4 (Nat.le_refl _))
        have hs4 := Lib.hid hs4
        have z4 := b4.size
        have B4 := Lib.hid (B3.out.trans (b4.mono (by omega)))
        clear ho4 b4
        generalize polT s r = R at *
        have one2 := Lib.hid (ints_oneCell .i64 R)
        go_wp2_with (at_builtin; refine wpList_append_own _ rfl _ _ 33 rfl w.heap.size 2 i0 (.int .i64 0) 1 8 Try.underlying33 hi hz0 hz1 hz2 rfl (by decide) _ _ _ rfl ho3.out ⟨g4, 0, none⟩ R.length k4 (R.map (Value.int .i64)) rfl (by simp) hs4.out one2.out (by unfold maxLen; omega) (by omega) (by omega) ?_; intro v5 w5 hown5 hgrow5 _)
        go_ret
        refine ⟨_, rfl, ?_, B4.out.grown hgrow5 (by omega) (fun j hj => (ho3.out.lt j hj).1)⟩
        rw [hP.out, List.map_append, List.map_append, List.length_append, List.length_append]
        exact hown5
end Go.Proofs.Ytbpkogknmhklbaa
