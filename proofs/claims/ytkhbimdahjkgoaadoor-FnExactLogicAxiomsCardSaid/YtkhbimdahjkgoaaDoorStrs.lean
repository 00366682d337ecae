/- Slices of strings: what the walks are told of them, and the search in one. -/
import Derived.Test.YtkhbimdahjkgoaaDoorRows
import Derived.Test.YtkhbimdahjkgoaaDoorKit
namespace Go.Proofs.YtkhbimdahjkgoaaDoor
open Go.RowKit

/-- A slice of strings. -/
def Strs (w : World) (v : Value) (ss : List ByteArray) : Prop := Reads w 1 v ss.length (ss.map Value.string)

theorem Strs.below {w w' : World} {v : Value} {ss : List ByteArray} {K : Nat} (h : Strs w v ss) (hb : Below K w w') (hk : w.heap.size ≤ K) : Strs w' v ss := Reads.below h hb hk

theorem strs_of_own {w : World} {B : Nat} {e : TypeId} {v : Value} {n : Nat} {ss : List ByteArray} (h : w.ownsRow B e 1 v n (ss.map Value.string)) : Strs w v ss := by
  have hn : n = ss.length := by have := h.1; simp at this; omega
  subst hn
  exact reads_of_own h

theorem Strs.opened {w : World} {v : Value} {ss : List ByteArray} (h : Strs w v ss) : ss.length ≤ maxLen ∧ ∃ a c b o, v = .slice a ss.length c ∧ ss.length ≤ c ∧ (ss.length ≤ 0 ∨ 0 < ss.length ∧ a = some ⟨b, o, none⟩) ∧
    Hid (∀ k, k < ss.length → ∃ x, ss[k]? = some x ∧ w.cell? ⟨b, o + k, none⟩ = some (.string x)) := by
  obtain ⟨_, h2, a, c, b, o, hv, hc, ha, hcell⟩ := h
  refine ⟨h2, a, c, b, o, hv, hc, ?_, fun k hk => ⟨ss[k], by simp [hk], hcell k _ (by simp [hk])⟩⟩
  rcases Nat.eq_zero_or_pos ss.length with h | h
  · exact .inl (by omega)
  · exact .inr ⟨h, ha h⟩

/-- Whether a list has a text. -/
def saysB (ss : List ByteArray) (s : ByteArray) : Bool := ss.any (fun x => x.toList == s.toList)

theorem says_yes {ss : List ByteArray} {s x : ByteArray} {k : Nat} (hx : ss[k]? = some x) (h : (x.toList == s.toList) = true) : saysB ss s = true := by
  unfold saysB
  rw [List.any_eq_true]
  exact ⟨x, List.mem_of_getElem? hx, h⟩

theorem says_no {ss : List ByteArray} {s : ByteArray} (h : ∀ i x, i < ss.length → ss[i]? = some x → (x.toList == s.toList) = false) : saysB ss s = false := by
  unfold saysB
  rw [List.any_eq_false]
  intro x hx
  obtain ⟨i, hi, rfl⟩ := List.mem_iff_getElem.1 hx
  have := h i ss[i] hi (by simp [hi])
  rw [this]
  exact Bool.false_ne_true


theorem indexStr_any (v : Value) (ss : List ByteArray) (s : ByteArray) (w : World) (h : Strs w v ss) :
    Calls Tryd.prog 21 #[v, .string s] w fun e w' => (∃ i : Int, e = .returned (.int .i64 i) ∧ -1 ≤ i ∧ Hid (decide (0 ≤ i) = saysB ss s)) ∧ w = w' := by
  obtain ⟨hm, a, c, b, o, rfl, hc, h0, hcell⟩ := h.opened
  unfold maxLen at hm
  clear h
  rcases h0 with h0 | ⟨h0, rfl⟩
  all_goals
    go_enter Tryd.func21, Tryd.ntmps21
    go_wp2
    go_loop [8] (fun i => ∃ k : Nat, k ≤ ss.length ∧ i = .int .i64 k ∧ Hid (∀ i x, i < k → ss[i]? = some x → (x.toList == s.toList) = false)) (fun i => ss.length - (intOf i).toNat)
    case atStart => exact ⟨0, Nat.zero_le _, rfl, fun j x hj => by omega⟩
    case round =>
      obtain ⟨k, hk, rfl, hall⟩ := hrel
      by_cases hlt : k < ss.length
      · all_goals try (exfalso; omega)
        all_goals
          obtain ⟨x, hx, hcx⟩ := hcell.out k hlt
          have hx := Lib.hid hx
          cases hin : (x.toList == s.toList)
          · have hin' : (s.toList == x.toList) = false := by
              rw [Bool.eq_false_iff] at hin ⊢
              intro hc
              exact hin (by rw [beq_iff_eq] at hc ⊢; exact hc.symm)
            go_wp2
            go_round
            case rel =>
              refine ⟨k + 1, by omega, by go_num, fun i y hi hy => ?_⟩
              rcases Nat.lt_or_ge i k with h2 | h2
              · exact hall.out i y h2 hy
              · obtain rfl : i = k := by omega
                rw [hx.out] at hy
                obtain rfl := Option.some.inj hy
                exact hin
            case measure => simp [intOf]; omega
          · have hf := Lib.hid (says_yes hx.out hin)
            have hin' : (s.toList == x.toList) = true := by
              rw [beq_iff_eq] at hin ⊢; exact hin.symm
            go_wp2
            go_ret
            exact ⟨⟨_, rfl, by omega, by show _ = _; rw [hf.out]; simp⟩, rfl⟩
      · obtain rfl : k = ss.length := by omega
        have hf := Lib.hid (says_no hall.out)
        go_wp2
        go_ret
        exact ⟨⟨_, rfl, by omega, by show _ = _; rw [hf.out]; rfl⟩, rfl⟩


/-- The seven logics of the sequents. -/
def seqLogics : List ByteArray := [⟨#[75]⟩, ⟨#[68]⟩, ⟨#[84]⟩, ⟨#[75, 52]⟩, ⟨#[83, 52]⟩, ⟨#[71, 76]⟩, ⟨#[83, 53]⟩]



end Go.Proofs.YtkhbimdahjkgoaaDoor
