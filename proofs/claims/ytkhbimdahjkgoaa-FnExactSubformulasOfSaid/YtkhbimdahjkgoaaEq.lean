/- Walks of the equality of two formulas, of the program and of the reference. -/
import Derived.Test.YtkhbimdahjkgoaaParts
namespace Go.Proofs.Ytkhbimdahjkgoaa
open Go.RowKit

theorem eqs_bad {ns ns' : List Nd} {k : Nat} {x y x' y' : Int} (h : ns[k]? = some (x, y)) (h' : ns'[k]? = some (x', y')) (hne : ¬ (x = x' ∧ y = y')) : decide (ns = ns') = false := by
  rw [decide_eq_false_iff_not]
  rintro rfl
  rw [h] at h'
  exact hne (by simpa using h')

theorem eqs_len {ns ns' : List Nd} (h : ns.length ≠ ns'.length) : decide (ns = ns') = false := by
  rw [decide_eq_false_iff_not]
  rintro rfl
  exact h rfl

theorem eqs_good {ns ns' : List Nd} (hl : ns.length = ns'.length) (h : ∀ i, i < ns.length → ns[i]? = ns'[i]?) : decide (ns = ns') = true := by
  rw [decide_eq_true_eq]
  apply List.ext_getElem?
  intro i
  rcases Nat.lt_or_ge i ns.length with h1 | h1
  · exact h i h1
  · rw [List.getElem?_eq_none h1, List.getElem?_eq_none (by omega)]


set_option maxHeartbeats 800000 in
theorem l02Equal_any (v v' : Value) (ns ns' : List Nd) (w : World) (h : Nodes w v ns) (h' : Nodes w v' ns') (hn : ns.length ≤ 1000000) :
    Calls Try.prog 44 #[v, v'] w fun e w' => e = .returned (.bool (decide (ns = ns'))) ∧ Below w.heap.size w w' := by
  obtain ⟨hm, a, c, b, o, rfl, hc, h0, hcell⟩ := h.opened
  obtain ⟨hm', a', c', b', o', rfl, hc', h0', hcell'⟩ := h'.opened
  unfold maxLen at hm hm'
  clear h h'
  by_cases hl : ns.length = ns'.length
  · have hfin := Lib.hid (eqs_good hl)
    rw [← hl] at hc' h0' hcell' ⊢
    clear hl hm'
    rcases h0 with h0 | ⟨h0, rfl⟩
    all_goals rcases h0' with h0' | ⟨h0', rfl⟩
    all_goals try (exfalso; omega)
    all_goals
      go_enter Try.func44, Try.ntmps44
      go_wp2_with fail
      go_loopw [5] (fun i wr => ∃ k : Nat, k ≤ ns.length ∧ i = .int .i64 k ∧ Hid (∀ i, i < k → ns[i]? = ns'[i]?) ∧ Below w.heap.size w wr) (fun i _ => ns.length - (intOf i).toNat)
      case atStart => exact ⟨0, Nat.zero_le _, rfl, fun j hj => by omega, Below.refl _ _⟩
      case round =>
        obtain ⟨k, hk, rfl, hall, hb⟩ := hrel
        by_cases hlt : k < ns.length
        · all_goals try (exfalso; omega)
          all_goals
            obtain ⟨x, y, hx, hcx, hcy⟩ := hcell.out k hlt
            obtain ⟨x', y', hx', hcx', hcy'⟩ := hcell'.out k hlt
            have hcx := (hb.cell (p := ⟨b, o + k * 2, none⟩) (World.block_lt_of_cell? w _ hcx)).trans hcx
            have hcy := (hb.cell (p := ⟨b, o + k * 2 + 1, none⟩) (World.block_lt_of_cell? w _ hcy)).trans hcy
            have hcx' := (hb.cell (p := ⟨b', o' + k * 2, none⟩) (World.block_lt_of_cell? w _ hcx')).trans hcx'
            have hcy' := (hb.cell (p := ⟨b', o' + k * 2 + 1, none⟩) (World.block_lt_of_cell? w _ hcy')).trans hcy'
            have hx := Lib.hid hx
            have hx' := Lib.hid hx'
            by_cases he : x = x' ∧ y = y'
            · obtain ⟨rfl, rfl⟩ := he
              go_wp2_with fail
              go_quiet (fail)
              go_wp2_with fail
              go_roundw
              case rel =>
                refine ⟨k + 1, by omega, by go_num, fun i hi => ?_, hb.trans (below_drewN' _ _)⟩
                rcases Nat.lt_or_ge i k with h2 | h2
                · exact hall.out i h2
                · obtain rfl : i = k := by omega
                  rw [hx.out, hx'.out]
              case measure => simp [intOf]; omega
            · have hf := Lib.hid (eqs_bad hx.out hx'.out he)
              by_cases hxe : x = x'
              · have hye : (y == y') = false := by rw [beq_eq_false_iff_ne]; exact fun h => he ⟨hxe, h⟩
                subst hxe
                clear he
                go_wp2_with fail
                go_quiet (fail)
                go_wp2_with fail
                go_ret
                exact ⟨ret_bool hf.out.symm, hb.trans (below_drewN' _ _)⟩
              · have hye : (x == x') = false := by rw [beq_eq_false_iff_ne]; exact hxe
                clear he hxe
                go_wp2_with fail
                go_quiet (fail)
                go_wp2_with fail
                go_ret
                exact ⟨ret_bool hf.out.symm, hb.trans (below_drewN' _ _)⟩
        · obtain rfl : k = ns.length := by omega
          have hf := Lib.hid (hfin.out hall.out)
          go_wp2_with fail
          go_ret
          exact ⟨ret_bool hf.out.symm, hb⟩
  · have hf := Lib.hid (eqs_len hl)
    have hl' : ((ns.length : Int) != (ns'.length : Int)) = true := by simp; omega
    clear hl h0 h0'
    generalize ns.length = m at *
    generalize ns'.length = m' at *
    go_enter Try.func44, Try.ntmps44
    go_wp2_with fail
    go_ret
    exact ⟨ret_bool hf.out.symm, Below.refl _ _⟩

end Go.Proofs.Ytkhbimdahjkgoaa
