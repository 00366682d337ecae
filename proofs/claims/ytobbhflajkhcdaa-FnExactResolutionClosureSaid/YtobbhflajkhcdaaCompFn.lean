/- slices.CompactFunc at a row of lists of integers: its two loops. -/
import Derived.Test.YtobbhflajkhcdaaCompII
namespace Go.Proofs.Ytobbhflajkhcdaa
open Go.RowKit Go.Lib
set_option linter.unusedVariables false
set_option linter.unusedSimpArgs false

theorem zero_ints (w : World) : (zeroValue 30).run Try.prog w = .ok (.slice none 0 0) w := by kernel_rfl
set_option maxHeartbeats 8000000 in
set_option maxRecDepth 100000 in
theorem compactFuncII_any (B : Nat) (v : Value) (ss : List SlI) (w : World) (h : w.ownsRow B 30 1 v ss.length (ss.map slVI)) (hr : ∀ s ∈ ss, Ints w (slVI s) s.2) (hne : ∀ s ∈ ss, ∀ k, v.ownBlock = some k → (slVI s).ownBlock ≠ some k) (hl : ss.length < 4611686018427387904) :
    Calls Try.prog 36 #[v, .func (.func 37) #[] #[]] w fun e w' => ∃ v', e = .returned v' ∧ v'.ownBlock = v.ownBlock ∧ w'.ownsRow B 30 1 v' (keptS ss ss.length).length ((keptS ss ss.length).map slVI) ∧ w.grownBy w' v.ownBlock := by
  by_cases h2 : ss.length < 2
  · have hk : keptS ss ss.length = ss := by
      rw [keptS_all (Nat.le_refl _) (fun j hj => ?_), List.take_length]
      rcases Nat.eq_zero_or_pos j with h0 | h0
      · exact keeps_lt_one _ j (by omega)
      · omega
    rw [hk]
    have h := Lib.hid h
    obtain ⟨a, c, rfl⟩ : ∃ a c, v = .slice a ss.length c := by
      rcases h.out.2 with ⟨rfl, h0⟩ | ⟨g, cap, cur, rfl, _⟩
      · exact ⟨none, 0, by rw [h0]⟩
      · exact ⟨_, _, rfl⟩
    clear hr hne hk
    go_enter Try.func36, Try.ntmps36
    go_wp2_with fail
    go_ret
    exact ⟨_, rfl, rfl, h.out, World.grownBy.refl _ _⟩
  · obtain ⟨g, cap, rfl, hB, hg, hcap, hmax, _, _⟩ := holds_of_ownsRow h (fun e => by
      rw [e] at h
      have := h.2
      rcases this with ⟨_, h0⟩ | ⟨g, cap, cur, hv, _⟩
      · omega
      · cases hv)
    have heg : ∀ args w, (callFunc 37 args).run Try.prog w = .ok (.enter 37 args) w := enters_of Try.func37 (by kernel_rfl) rfl
    have hrg := Lib.hid (fun (s : SlI) (hs : s ∈ ss) (W : World) (hW : w.grownBy W (some g)) => show Ints W (slVI s) s.2 from ints_grown (hr s hs) hW (fun k hk hk2 => hne s hs g rfl (hk2.trans hk.symm)))
    have heq := Lib.hid (fun (s t : SlI) (hs : s ∈ ss) (ht : t ∈ ss) (W : World) (hW : w.grownBy W (some g)) => equalI_any (slVI s) (slVI t) s.2 t.2 W (hrg.out s hs W hW) (hrg.out t ht W hW))
    have ho := Lib.hid h
    have hkv := Lib.hid (fun (m : Nat) (s t : SlI) (hs : ss[m + 1]? = some s) (ht : ss[m]? = some t) => keeps_vals hs ht)
    unfold maxLen at hmax
    clear h hr hne hrg
    generalize hn : ss.length = n at *
    have hnh := Lib.hid hn
    go_enter Try.func36, Try.ntmps36
    go_wp2_with fail
    go_loopw [5] (fun s5 wr => ∃ k m : Nat, k ≤ n ∧ m + 1 ≤ k ∧ k ≤ m + 1 ∧ s5 = .int .i64 k ∧ Hid (∀ j, j < k → keeps (ss.map (·.2)).toArray j = true) ∧ Below w.heap.size w wr) (fun s5 _ => n - (intOf s5).toNat)
    case atStart => exact ⟨1, 0, by omega, by omega, by omega, rfl, Lib.hid (fun j hj => keeps_lt_one _ j hj), Below.refl _ _⟩
    case round =>
      obtain ⟨k, m, hm, hm1, hm2, rfl, hall, hb⟩ := hrel
      by_cases hlt : k < n
      · obtain ⟨s, hs⟩ : ∃ s, ss[k]? = some s := ⟨_, List.getElem?_eq_getElem (by omega)⟩
        obtain ⟨t, ht⟩ : ∃ t, ss[m]? = some t := ⟨_, List.getElem?_eq_getElem (by omega)⟩
        have hor := Lib.hid (own_below ho.out hb (Nat.le_refl _))
        have c1 : wr.cell? ⟨g, k, none⟩ = some (slVI s) := by rw [hor.out.cellAt k (by omega), List.getElem?_map, hs]; rfl
        have c0 : wr.cell? ⟨g, m, none⟩ = some (slVI t) := by rw [hor.out.cellAt m (by omega), List.getElem?_map, ht]; rfl
        have hk := Lib.hid (show keeps (ss.map (·.2)).toArray k = !decide (s.2 = t.2) by
          have e : k = m + 1 := by omega
          rw [e] at hs ⊢
          exact hkv.out m s t hs ht)
        have hcall := Lib.hid (fun W (hW : Below wr.heap.size wr W) => heq.out s t (List.mem_of_getElem? hs) (List.mem_of_getElem? ht) W (grown_of_below (hb.trans (hW.mono hb.size))))
        have hs := Lib.hid hs
        have ht := Lib.hid ht
        unfold slVI at c0 c1 hcall
        obtain ⟨⟨sa, sn, sc⟩, sx⟩ := s
        obtain ⟨⟨ta, tn, tc⟩, tx⟩ := t
        dsimp only at c0 c1 hcall hk
        have hb0 := Below.refl wr.heap.size wr
        have q0 : (0 : Int) ≤ (m : Int) := by omega
        have q1 : (m : Int) < (n : Int) := by omega
        have q2 : (k : Int) < (n : Int) := by omega
        cases hd : decide (sx = tx)
        · rw [hd] at hcall hk
          have hall2 := Lib.hid (show ∀ j, j < k + 1 → keeps (ss.map (·.2)).toArray j = true from fun j hj => by
            rcases Nat.lt_or_ge j k with h1 | h1
            · exact hall.out j h1
            · obtain rfl : j = k := by omega
              exact hk.out)
          clear hd
          go_wp2_with fail
          have hw1 : IntKind.i64.wrap ((k : Int) - 1) = (m : Int) := by rw [show (k : Int) - 1 = (m : Int) by omega]; exact IntWalk.i64_in _ (by omega)
          go_region_held3 (fun W => Below wr.heap.size wr W ∧ W.cell? ⟨g, k, none⟩ = some (.slice sa sn sc) ∧ W.cell? ⟨g, m, none⟩ = some (.slice ta tn tc)) (first | (refine ⟨?_, ?_, ?_⟩ <;> (first | assumption | (exact Below.drew (by assumption)))) | (obtain ⟨hs1, hs2, hs3⟩ := ‹Below _ _ _ ∧ _ ∧ _›; exact ⟨keep_step (by assumption) hs1, keep_cell (by assumption) hs2, keep_cell (by assumption) hs3⟩)) (first | (go_at_fn 37; refine (hcall.out _ (And.left ‹Below wr.heap.size wr _ ∧ _ ∧ _›)).mono ?_; rintro e w' ⟨rfl, hb'⟩))
          all_goals
            obtain ⟨hs1, _⟩ := ‹Below wr.heap.size wr _ ∧ _ ∧ _›
            have hB := Lib.hid (hb.trans (hs1.mono hb.size))
            clear hw1 c0 c1
            go_wp2_with fail
            go_roundw
            case rel => exact ⟨k + 1, k, by omega, by omega, by omega, by go_num, hall2, hB.out⟩
            case measure => simp [intOf]; omega
        · rw [hd] at hcall hk
          have hkept := Lib.hid (show keptS ss (k + 1) = ss.take k by
            rw [keptS_succ, hk.out]
            simp only [Bool.not_true, Bool.false_eq_true, if_false, List.append_nil]
            exact keptS_all (by rw [hnh.out]; omega) hall.out)
          clear hd
          go_wp2_with fail
          have hw1 : IntKind.i64.wrap ((k : Int) - 1) = (m : Int) := by rw [show (k : Int) - 1 = (m : Int) by omega]; exact IntWalk.i64_in _ (by omega)
          go_region_held3 (fun W => Below wr.heap.size wr W ∧ W.cell? ⟨g, k, none⟩ = some (.slice sa sn sc) ∧ W.cell? ⟨g, m, none⟩ = some (.slice ta tn tc)) (first | (refine ⟨?_, ?_, ?_⟩ <;> (first | assumption | (exact Below.drew (by assumption)))) | (obtain ⟨hs1, hs2, hs3⟩ := ‹Below _ _ _ ∧ _ ∧ _›; exact ⟨keep_step (by assumption) hs1, keep_cell (by assumption) hs2, keep_cell (by assumption) hs3⟩)) (first | (go_at_fn 37; refine (hcall.out _ (And.left ‹Below wr.heap.size wr _ ∧ _ ∧ _›)).mono ?_; rintro e w' ⟨rfl, hb'⟩))
          all_goals
            obtain ⟨hs1, _⟩ := ‹Below wr.heap.size wr _ ∧ _ ∧ _›
            have hB := Lib.hid (hb.trans (hs1.mono hb.size))
            have hoW := Lib.hid (own_below ho.out hB.out (Nat.le_refl _))
            have hck : k < cap := by omega
            have hckc : (k : Int) ≤ (cap : Int) := by omega
            have hne : ¬ cap = k := by omega
            clear hw1 c0 c1 hall hk hor hs1 hb hb0 hcall
            go_wp2_with fail
            have hr0 : k + (n - k) ≤ n := by omega
            have hr1 : n ≤ k + (n - k) := by omega
            generalize n - k = r at *
            generalize cap - k = cr at *
            go_loopw [5, 7] (fun s5 s7 wr => ∃ (kk j p : Nat) (X : List SlI), s5 = .int .i64 kk ∧ s7 = .int .i64 j ∧ p + 1 ≤ j ∧ j ≤ p + 1 ∧ k + j ≤ n ∧ kk + 1 ≤ k + j ∧ Hid (X.length = n) ∧ Hid (wr.ownsRow B 30 1 (.slice (some ⟨g, 0, none⟩) n cap) n (X.map slVI)) ∧ Hid (X.take kk = keptS ss (k + j) ∧ kk = (keptS ss (k + j)).length ∧ ∀ q, k + p ≤ q → X[q]? = ss[q]?) ∧ w.grownBy wr (some g)) (fun _ s7 _ => n - (intOf s7).toNat)
            case atStart => exact ⟨k, 1, 0, ss, rfl, rfl, by omega, by omega, by omega, by omega, hnh, hoW, Lib.hid ⟨hkept.out.symm, by rw [hkept.out, List.length_take, hnh.out]; omega, fun q _ => rfl⟩, grown_of_below hB.out⟩
            case round =>
              obtain ⟨kk, j, p, X, rfl, rfl, hp1, hp2, hj, hkk, hXl, hX, hXX, hgw⟩ := hrel
              by_cases hlt2 : j < r
              · obtain ⟨s', hs'⟩ : ∃ s', ss[k + j]? = some s' := ⟨_, List.getElem?_eq_getElem (by rw [hnh.out]; omega)⟩
                obtain ⟨t', ht'⟩ : ∃ t', ss[k + p]? = some t' := ⟨_, List.getElem?_eq_getElem (by rw [hnh.out]; omega)⟩
                have c1 : wr.cell? ⟨g, k + j, none⟩ = some (slVI s') := by rw [hX.out.cellAt (k + j) (by omega), List.getElem?_map, hXX.out.2.2 (k + j) (by omega), hs']; rfl
                have c0 : wr.cell? ⟨g, k + p, none⟩ = some (slVI t') := by rw [hX.out.cellAt (k + p) (by omega), List.getElem?_map, hXX.out.2.2 (k + p) (by omega), ht']; rfl
                have hk := Lib.hid (show keeps (ss.map (·.2)).toArray (k + j) = !decide (s'.2 = t'.2) by
                  have e : k + j = (k + p) + 1 := by omega
                  rw [e] at hs' ⊢
                  exact hkv.out (k + p) s' t' hs' ht')
                have hcall := Lib.hid (fun W (hW : Below wr.heap.size wr W) => heq.out s' t' (List.mem_of_getElem? hs') (List.mem_of_getElem? ht') W (hgw.trans (grown_of_below hW)))
                have hs' := Lib.hid hs'
                unfold slVI at c0 c1 hcall
                obtain ⟨⟨pa, pn, pc⟩, px⟩ := s'
                obtain ⟨⟨qa, qn, qc⟩, qx⟩ := t'
                dsimp only at c0 c1 hcall hk
                have hb0 := Below.refl wr.heap.size wr
                have q0 : (0 : Int) ≤ (p : Int) := by omega
                have q1 : (p : Int) < (r : Int) := by omega
                have q2 : (j : Int) < (r : Int) := by omega
                have q3 : kk < n := by omega
                cases hd : decide (px = qx)
                · rw [hd] at hcall hk
                  have hXX2 := Lib.hid (show (X.set kk ((pa, pn, pc), px)).take (kk + 1) = keptS ss (k + j + 1) ∧ kk + 1 = (keptS ss (k + j + 1)).length ∧ ∀ q, k + j ≤ q → (X.set kk ((pa, pn, pc), px))[q]? = ss[q]? by
                    have e : keptS ss (k + j + 1) = keptS ss (k + j) ++ [((pa, pn, pc), px)] := by
                      rw [keptS_succ, hk.out, hs'.out]
                      rfl
                    refine ⟨?_, ?_, fun q hq => ?_⟩
                    · rw [e, ← hXX.out.1, List.take_add_one, List.getElem?_set_self (by rw [hXl.out]; omega)]
                      congr 1
                      apply List.ext_getElem?
                      intro i
                      rw [List.getElem?_take, List.getElem?_take]
                      split
                      · rw [List.getElem?_set_ne (by omega)]
                      · rfl
                    · rw [e, List.length_append, ← hXX.out.2.1]; rfl
                    · rw [List.getElem?_set_ne (by omega)]
                      exact hXX.out.2.2 q (by omega))
                  have hXl2 := Lib.hid (show (X.set kk ((pa, pn, pc), px)).length = n by rw [List.length_set]; exact hXl.out)
                  clear hd
                  go_wp2_with fail
                  have hw1 : IntKind.i64.wrap ((j : Int) - 1) = (p : Int) := by rw [show (j : Int) - 1 = (p : Int) by omega]; exact IntWalk.i64_in _ (by omega)
                  go_region_held3 (fun W => Below wr.heap.size wr W ∧ W.cell? ⟨g, k + j, none⟩ = some (.slice pa pn pc) ∧ W.cell? ⟨g, k + p, none⟩ = some (.slice qa qn qc)) (first | (refine ⟨?_, ?_, ?_⟩ <;> (first | assumption | (exact Below.drew (by assumption)))) | (obtain ⟨hs1, hs2, hs3⟩ := ‹Below _ _ _ ∧ _ ∧ _›; exact ⟨keep_step (by assumption) hs1, keep_cell (by assumption) hs2, keep_cell (by assumption) hs3⟩)) (first | (go_at_fn 37; refine (hcall.out _ (And.left ‹Below wr.heap.size wr _ ∧ _ ∧ _›)).mono ?_; rintro e w' ⟨rfl, hb'⟩))
                  all_goals
                    obtain ⟨hs1, hs2, _⟩ := ‹Below wr.heap.size wr _ ∧ _ ∧ _›
                    have hXW := Lib.hid (own_below hX.out hs1 (Nat.le_refl _))
                    have hgW := Lib.hid (hgw.trans (grown_of_below (row := some g) hs1))
                    obtain ⟨⟨⟨⟨za, zn, zc⟩, zl⟩, _, hcz⟩, hfz⟩ := own_cell hXW.out q3
                    unfold slVI at hcz
                    dsimp only at hcz
                    have hst := (hXW.out.stored kk (slVI ((pa, pn, pc), px))).1
                    rw [← List.map_set] at hst
                    have hst := Lib.hid hst
                    clear hw1 c0 c1 hcall hs1 hb0
                    go_wp2_with fail
                    go_roundw
                    case rel => exact ⟨kk + 1, j + 1, j, X.set kk ((pa, pn, pc), px), by go_num, by go_num, by omega, by omega, by omega, by omega, hXl2, hst, hXX2, hgW.out.trans (grown_setI _ g kk _)⟩
                    case measure => simp [intOf]; omega
                · rw [hd] at hcall hk
                  have hXX2 := Lib.hid (show X.take kk = keptS ss (k + j + 1) ∧ kk = (keptS ss (k + j + 1)).length ∧ ∀ q, k + j ≤ q → X[q]? = ss[q]? by
                    have e : keptS ss (k + j + 1) = keptS ss (k + j) := by
                      rw [keptS_succ, hk.out]
                      simp
                    rw [e]
                    exact ⟨hXX.out.1, hXX.out.2.1, fun q hq => hXX.out.2.2 q (by omega)⟩)
                  clear hd
                  go_wp2_with fail
                  have hw1 : IntKind.i64.wrap ((j : Int) - 1) = (p : Int) := by rw [show (j : Int) - 1 = (p : Int) by omega]; exact IntWalk.i64_in _ (by omega)
                  go_region_held3 (fun W => Below wr.heap.size wr W ∧ W.cell? ⟨g, k + j, none⟩ = some (.slice pa pn pc) ∧ W.cell? ⟨g, k + p, none⟩ = some (.slice qa qn qc)) (first | (refine ⟨?_, ?_, ?_⟩ <;> (first | assumption | (exact Below.drew (by assumption)))) | (obtain ⟨hs1, hs2, hs3⟩ := ‹Below _ _ _ ∧ _ ∧ _›; exact ⟨keep_step (by assumption) hs1, keep_cell (by assumption) hs2, keep_cell (by assumption) hs3⟩)) (first | (go_at_fn 37; refine (hcall.out _ (And.left ‹Below wr.heap.size wr _ ∧ _ ∧ _›)).mono ?_; rintro e w' ⟨rfl, hb'⟩))
                  all_goals
                    obtain ⟨hs1, hs2, _⟩ := ‹Below wr.heap.size wr _ ∧ _ ∧ _›
                    have hXW := Lib.hid (own_below hX.out hs1 (Nat.le_refl _))
                    have hgW := Lib.hid (hgw.trans (grown_of_below (row := some g) hs1))
                    clear hw1 c0 c1 hcall hs1 hb0
                    go_wp2_with fail
                    go_roundw
                    case rel => exact ⟨kk, j + 1, j, X, rfl, by go_num, by omega, by omega, by omega, by omega, hXl, hXW, hXX2, hgW.out⟩
                    case measure => simp [intOf]; omega
              · have hend : k + j = n := by omega
                have hkn : kk < n := by omega
                have hkc : kk < cap := by omega
                have hkn2 : (kk : Int) ≤ (n : Int) := by omega
                have hkc2 : (kk : Int) ≤ (cap : Int) := by omega
                have hne2 : ¬ cap = kk := by omega
                have hcl : ∀ ty, (Builtin.clear_ #[22] ty #[.slice (some ⟨g, kk, none⟩) (n - kk) (cap - kk)]).run Try.prog wr = .ok (.tuple #[]) (wr.setCells g kk (List.replicate (n - kk) (.slice none 0 0))) :=
                  fun ty => Lib.run_clear_slice wr _ _ ty _ Try.underlying22 zero_ints rfl rfl g kk _ _ (by omega) (fun i hi => by rw [hX.out.cellAt (kk + i) (by omega), List.getElem?_map, List.getElem?_eq_getElem (by rw [hXl.out]; omega)]; rfl) (fun i _ => hX.out.frozenAt (kk + i))
                obtain ⟨ys, hY, hYt⟩ := own_setCells (List.replicate (n - kk) (Value.slice none 0 0)) hX.out (Nat.le_refl kk)
                have hYc := own_cut hY (Nat.le_of_lt hkn)
                rw [hYt, ← List.map_take, hXX.out.1, hend] at hYc
                have hlen := hXX.out.2.1
                rw [hend] at hlen
                have hfin := Lib.hid (show (wr.setCells g kk (List.replicate (n - kk) (.slice none 0 0))).ownsRow B 30 1 (.slice (some ⟨g, 0, none⟩) kk cap) (keptS ss n).length ((keptS ss n).map slVI) by rw [← hlen]; exact hYc)
                have hgf := Lib.hid (hgw.trans (grown_setCells (List.replicate (n - kk) (Value.slice none 0 0)) wr g kk))
                clear hY hYt hYc hlen hX hXX hend hgw ys
                go_wp2_with fail
                go_ret
                exact ⟨_, rfl, rfl, hfin.out, hgf.out⟩
      · obtain rfl : k = n := by omega
        have hk : keptS ss k = ss := by
          rw [keptS_all (by rw [hnh.out]; exact Nat.le_refl _) hall.out]
          exact List.take_of_length_le (by rw [hnh.out]; exact Nat.le_refl _)
        have hfin := Lib.hid (show wr.ownsRow B 30 1 (.slice (some ⟨g, 0, none⟩) k cap) (keptS ss k).length ((keptS ss k).map slVI) by rw [hk, hnh.out]; exact own_below ho.out hb (Nat.le_refl _))
        have hgf := Lib.hid (show w.grownBy wr (some g) from grown_of_below hb)
        clear hk hb
        go_wp2_with fail
        go_ret
        exact ⟨_, rfl, rfl, hfin.out, hgf.out⟩
end Go.Proofs.Ytobbhflajkhcdaa
