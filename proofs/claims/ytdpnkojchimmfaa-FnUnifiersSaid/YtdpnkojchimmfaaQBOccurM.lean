/- Walks of the equality of two formulas, of the program and of the reference. -/
import Derived.Test.YtdpnkojchimmfaaQBParts
import Derived.Test.YtdpnkojchimmfaaQBLists
import Derived.Test.YtdpnkojchimmfaaQBRelMathBM

namespace Go.Proofs.Ytdpnkojchimmfaa
open Go.RowKit

theorem eqs_bad {ns ns' : List Nd} {k : Nat} {x y x' y' : Int} (h : ns[k]? = some (x, y)) (h' : ns'[k]? = some (x', y')) (hne : ¬ (x = x' ∧ y = y')) : decide (ns = ns') = false := by
  rw [decide_eq_false_iff_not]
  rintro rfl
  rw [h] at h'
  exact hne (by simpa using h')

theorem eqs_len {ns ns' : List Nd} (h : ns.length ≠ ns'.length) : decide (ns = ns') = false := by
  rw [decide_eq_false_iff_not]
  rintro rfl
  exact h rfl

theorem eqs_good {ns ns' : List Nd} (hl : ns.length = ns'.length) (h : ∀ i, i < ns.length → ns[i]? = ns'[i]?) : decide (ns = ns') = true := by
  rw [decide_eq_true_eq]
  apply List.ext_getElem?
  intro i
  rcases Nat.lt_or_ge i ns.length with h1 | h1
  · exact h i h1
  · rw [List.getElem?_eq_none h1, List.getElem?_eq_none (by omega)]

set_option maxHeartbeats 800000 in
theorem equalN_any (v v' : Value) (ns ns' : List Nd) (w : World) (h : Nodes w v ns) (h' : Nodes w v' ns') (hn : ns.length ≤ 1000000) :
    Calls Try.prog 94 #[v, v'] w fun e w' => e = .returned (.bool (decide (ns = ns'))) ∧ Below w.heap.size w w' := by
  obtain ⟨hm, a, c, b, o, rfl, hc, h0, hcell⟩ := h.opened
  obtain ⟨hm', a', c', b', o', rfl, hc', h0', hcell'⟩ := h'.opened
  unfold maxLen at hm hm'
  clear h h'
  by_cases hl : ns.length = ns'.length
  · have hfin := Lib.hid (eqs_good hl)
    rw [← hl] at hc' h0' hcell' ⊢
    clear hl hm'
    rcases h0 with h0 | ⟨h0, rfl⟩
    all_goals rcases h0' with h0' | ⟨h0', rfl⟩
    all_goals try (exfalso; omega)
    all_goals
      go_enter Try.func94, Try.ntmps94
      go_wp2_with fail
      go_loopw [13] (fun i wr => ∃ k : Nat, k ≤ ns.length ∧ i = .int .i64 k ∧ Hid (∀ i, i < k → ns[i]? = ns'[i]?) ∧ Below w.heap.size w wr) (fun i _ => ns.length - (intOf i).toNat)
      case atStart => exact ⟨0, Nat.zero_le _, rfl, fun j hj => by omega, Below.refl _ _⟩
      case round =>
        obtain ⟨k, hk, rfl, hall, hb⟩ := hrel
        by_cases hlt : k < ns.length
        · all_goals try (exfalso; omega)
          all_goals
            obtain ⟨x, y, hx, hcx, hcy⟩ := hcell.out k hlt
            obtain ⟨x', y', hx', hcx', hcy'⟩ := hcell'.out k hlt
            have hcx := (hb.cell (p := ⟨b, o + k * 2, none⟩) (World.block_lt_of_cell? w _ hcx)).trans hcx
            have hcy := (hb.cell (p := ⟨b, o + k * 2 + 1, none⟩) (World.block_lt_of_cell? w _ hcy)).trans hcy
            have hcx' := (hb.cell (p := ⟨b', o' + k * 2, none⟩) (World.block_lt_of_cell? w _ hcx')).trans hcx'
            have hcy' := (hb.cell (p := ⟨b', o' + k * 2 + 1, none⟩) (World.block_lt_of_cell? w _ hcy')).trans hcy'
            have hx := Lib.hid hx
            have hx' := Lib.hid hx'
            by_cases he : x = x' ∧ y = y'
            · obtain ⟨rfl, rfl⟩ := he
              go_wp2_with fail
              go_quiet (fail)
              go_wp2_with fail
              go_roundw
              case rel =>
                refine ⟨k + 1, by omega, by go_num, fun i hi => ?_, hb.trans (below_drewN' _ _)⟩
                rcases Nat.lt_or_ge i k with h2 | h2
                · exact hall.out i h2
                · obtain rfl : i = k := by omega
                  rw [hx.out, hx'.out]
              case measure => simp [intOf]; omega
            · have hf := Lib.hid (eqs_bad hx.out hx'.out he)
              by_cases hxe : x = x'
              · have hye : (y == y') = false := by rw [beq_eq_false_iff_ne]; exact fun h => he ⟨hxe, h⟩
                subst hxe
                clear he
                go_wp2_with fail
                go_quiet (fail)
                go_wp2_with fail
                go_ret
                exact ⟨ret_bool hf.out.symm, hb.trans (below_drewN' _ _)⟩
              · have hye : (x == x') = false := by rw [beq_eq_false_iff_ne]; exact hxe
                clear he hxe
                go_wp2_with fail
                go_quiet (fail)
                go_wp2_with fail
                go_ret
                exact ⟨ret_bool hf.out.symm, hb.trans (below_drewN' _ _)⟩
        · obtain rfl : k = ns.length := by omega
          have hf := Lib.hid (hfin.out hall.out)
          go_wp2_with fail
          go_ret
          exact ⟨ret_bool hf.out.symm, hb⟩
  · have hf := Lib.hid (eqs_len hl)
    have hl' : ((ns.length : Int) != (ns'.length : Int)) = true := by simp; omega
    clear hl h0 h0'
    generalize ns.length = m at *
    generalize ns'.length = m' at *
    go_enter Try.func94, Try.ntmps94
    go_wp2_with fail
    go_ret
    exact ⟨ret_bool hf.out.symm, Below.refl _ _⟩


theorem same_any (v v' : Value) (ns ns' : List Nd) (w : World) (h : Nodes w v ns) (h' : Nodes w v' ns') (hn : ns.length ≤ 1000000) :
    Calls Try.prog 76 #[v, v'] w fun e w' => e = .returned (.bool (decide (ns = ns'))) ∧ Below w.heap.size w w' := by
  have hc := Lib.hid (equalN_any v v' ns ns' w h h' hn)
  go_enter Try.func76, Try.ntmps76
  go_wp2_with fail
  refine hc.out.mono ?_
  rintro e w' ⟨rfl, hb⟩
  go_wp2_with fail
  go_ret
  exact ⟨rfl, hb⟩
end Go.Proofs.Ytdpnkojchimmfaa

/- Walks of OccurrencesOf, of the program and of the reference. -/
namespace Go.Proofs.Ytdpnkojchimmfaa
open Go.RowKit

theorem skip_mid (ns : List Nd) (op : Nat) (h : skip ns op = some []) (i : Nat) (hi : i < ns.length) : ∃ r, skip (ns.drop i) 1 = some r := by
  induction ns generalizing op i with
  | nil => simp at hi
  | cons n l ih =>
    cases op with
    | zero => rw [skip_zero] at h; cases h
    | succ op =>
      cases i with
      | zero =>
        rw [show op + 1 = 1 + op by omega, skip_add] at h
        cases hh : skip (n :: l) 1 with
        | none => rw [hh] at h; cases h
        | some r => exact ⟨r, by simpa using hh⟩
      | succ i =>
        rw [skip_cons] at h
        exact ih _ h i (by simpa using hi)

/-- In a formula a part begins at each node. -/
theorem part_in {ns : List Nd} (h : formB ns = true) {i : Nat} (hi : i < ns.length) : ∃ m, 0 < m ∧ i + m ≤ ns.length ∧ partEndL ns i = ((i + m : Nat) : Int) := by
  simp only [formB, Bool.and_eq_true, decide_eq_true_eq] at h
  obtain ⟨r, hr⟩ := skip_mid ns 1 h.2 i hi
  obtain ⟨p, hp, hl⟩ := skip_suffix _ _ _ hr
  have hlen : ns.length - i = p.length + r.length := by rw [← List.length_drop, hp, List.length_append]
  refine ⟨p.length, by omega, by omega, ?_⟩
  unfold partEndL
  rw [hr]
  show (ns.length : Int) - (r.length : Nat) = _
  omega

/-- The part at a node. -/
def partL (ns : List Nd) (i : Nat) : List Nd := (ns.drop i).take (partEndL ns i - i).toNat
theorem partL_eq {ns : List Nd} {i m : Nat} (he : partEndL ns i = ((i + m : Nat) : Int)) : (ns.drop i).take m = partL ns i := by
  unfold partL
  rw [he]
  congr 1
  omega

def occUpto (ns bs : List Nd) (k : Nat) : List Int := ((List.range k).filter fun i => decide (partL ns i = bs)).map fun i => ((i : Nat) : Int)
theorem occ_yes {ns bs : List Nd} {k : Nat} (h : decide (partL ns k = bs) = true) : occUpto ns bs (k + 1) = occUpto ns bs k ++ [(k : Int)] := by
  unfold occUpto
  rw [List.range_succ, List.filter_append, List.map_append]
  congr 1
  simp only [List.filter, h, List.map]
theorem occ_no {ns bs : List Nd} {k : Nat} (h : decide (partL ns k = bs) = false) : occUpto ns bs (k + 1) = occUpto ns bs k := by
  unfold occUpto
  rw [List.range_succ, List.filter_append, List.map_append]
  simp only [List.filter, h, List.map, List.append_nil]
theorem occ_length (ns bs : List Nd) (k : Nat) : (occUpto ns bs k).length ≤ k := by
  unfold occUpto
  rw [List.length_map]
  exact Nat.le_trans (List.length_filter_le _ _) (by simp)

def form2 (ns bs : List Nd) : Bool := formB ns && formB bs
def form2Code (ns bs : List Nd) : Int := if form2 ns bs then 0 else 1
def occR (ns bs : List Nd) : List Int := if form2 ns bs then occUpto ns bs ns.length else []
theorem occR_length (ns bs : List Nd) : (occR ns bs).length ≤ 64 := by
  unfold occR
  split
  · rename_i h
    have := occ_length ns bs ns.length
    simp only [form2, formB, Bool.and_eq_true, decide_eq_true_eq] at h
    omega
  · simp


end Go.Proofs.Ytdpnkojchimmfaa
