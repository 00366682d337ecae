/- Lists of lists of int64: how they read; the laws' functions on them. (written by turnii.py) -/
import Derived.Test.YtdpnkojchimmfaaQBTreeM
import Derived.Test.YtdpnkojchimmfaaQBPredM
import Derived.Maps.AppendAt
import Derived.Deep.RegionHeld3
import Derived.Test.YtdpnkojchimmfaaQBKit
import Derived.Lib.AppendZeros

namespace Go.Proofs.Ytdpnkojchimmfaa
open Go.RowKit

theorem Ints.shape {w : World} {v : Value} {xs : List Int} (h : Ints w v xs) : ∃ a c, v = .slice a xs.length c := by
  obtain ⟨_, _, a, c, _, _, hv, _⟩ := h
  exact ⟨a, c, hv⟩

/-- A slice's three parts, and the nodes that it reads. -/
abbrev SlI := (Option Addr × Nat × Nat) × List Int
def slVI (s : SlI) : Value := .slice s.1.1 s.1.2.1 s.1.2.2

/-- A slice of slices: the elements' own values. -/
def SlicesI (w : World) (v : Value) (ss : List SlI) : Prop := Reads w 1 v ss.length (ss.map slVI)

theorem SlicesI.below {w w' : World} {v : Value} {ss : List SlI} {K : Nat} (h : SlicesI w v ss) (hb : Below K w w') (hk : w.heap.size ≤ K) : SlicesI w' v ss := Reads.below h hb hk

theorem SlicesI.opened {w : World} {v : Value} {ss : List SlI} (h : SlicesI w v ss) : ss.length ≤ maxLen ∧ ∃ a c b o, v = .slice a ss.length c ∧ ss.length ≤ c ∧ (ss.length ≤ 0 ∨ 0 < ss.length ∧ a = some ⟨b, o, none⟩) ∧
    Hid (∀ k, k < ss.length → ∃ a n c ns, ss[k]? = some ((a, n, c), ns) ∧ w.cell? ⟨b, o + k, none⟩ = some (.slice a n c)) := by
  obtain ⟨_, h2, a, c, b, o, hv, hc, ha, hcell⟩ := h
  refine ⟨h2, a, c, b, o, hv, hc, ?_, fun k hk => ⟨ss[k].1.1, ss[k].1.2.1, ss[k].1.2.2, ss[k].2, by simp [hk], hcell k _ (by simp [hk, slVI])⟩⟩
  rcases Nat.eq_zero_or_pos ss.length with h | h
  · exact .inl (by omega)
  · exact .inr ⟨h, ha h⟩




/-- What is read stays where another row is written. -/
theorem ints_grown {w w' : World} {v : Value} {ns : List Int} {row : Option Nat} (h : Ints w v ns) (hg : w.grownBy w' row) (hne : ∀ k, row = some k → v.ownBlock ≠ some k) : Ints w' v ns := by
  obtain ⟨h1, h2, a, c, b, o, rfl, hc, ha, hcell⟩ := h
  refine ⟨h1, h2, a, c, b, o, rfl, hc, ha, fun i u hu => ?_⟩
  have hp : 0 < ns.length := by
    rcases Nat.eq_zero_or_pos ns.length with h0 | h0
    · rw [List.eq_nil_of_length_eq_zero h0] at hu; cases hu
    · exact h0
  obtain rfl := ha hp
  have h3 := hcell i u hu
  exact (World.cell?_of_block (hg.block b (World.block_lt_of_cell? w _ h3) fun e => hne b e.symm rfl)).trans h3


theorem info_ints : (Try.prog.info? 74).map (fun i => (i.zero, i.size, i.bytes)) = some (some (.slice none 0 0), 1, 24) := by kernel_rfl

/-- v reads as a list of lists of int64. -/
def Fi (w : World) (v : Value) (Is : List (List Int)) : Prop := ∃ ss : List SlI, SlicesI w v ss ∧ (∀ s ∈ ss, Ints w (slVI s) s.2) ∧ ss.map (·.2) = Is
theorem Fi.below {w w' : World} {v : Value} {Is : List (List Int)} {K : Nat} (h : Fi w v Is) (hb : Below K w w') (hk : w.heap.size ≤ K) : Fi w' v Is := by
  obtain ⟨ss, h1, h2, h3⟩ := h
  exact ⟨ss, h1.below hb hk, fun s hs => (h2 s hs).below hb hk, h3⟩

theorem grown_setI (w : World) (g o : Nat) (x : Value) : w.grownBy (w.setCell ⟨g, o, none⟩ x) (some g) := ⟨rfl, rfl, rfl, by simp [World.setCell], fun j _ hne => Below.heap_setCell _ _ _ _ (by simpa using hne)⟩


theorem Fi.cells {w : World} {v : Value} {Is : List (List Int)} (h : Fi w v Is) : ∃ a c b o, v = .slice a Is.length c ∧ Is.length ≤ c ∧ Is.length ≤ maxLen ∧ (0 < Is.length → a = some ⟨b, o, none⟩) ∧ Hid (∀ j : Nat, j < Is.length → ∃ vI I, Is[j]? = some I ∧ w.cell? ⟨b, o + j, none⟩ = some vI ∧ Ints w vI I) := by
  obtain ⟨ss, h1, h2, h3⟩ := h
  have hl : ss.length = Is.length := by have := congrArg List.length h3; simpa using this
  obtain ⟨_, hm, a, c, b, o, rfl, hc, ha, hcell⟩ := h1
  rw [hl] at hc hm ha ⊢
  refine ⟨a, c, b, o, rfl, hc, hm, ha, fun j hj => ?_⟩
  have hjs : j < ss.length := by omega
  obtain ⟨s, hs⟩ : ∃ s, ss[j]? = some s := ⟨_, List.getElem?_eq_getElem hjs⟩
  refine ⟨slVI s, s.2, by rw [← h3, List.getElem?_map, hs]; rfl, ?_, h2 s (List.mem_of_getElem? hs)⟩
  exact hcell j _ (by rw [List.getElem?_map, hs]; rfl)


def szRI (l : Int) (n : Nat) : Int := if l < n then -1 else l - n
theorem szRI_lt {l : Int} {n : Nat} (h : l < n) : szRI l n = -1 := if_pos h
theorem szRI_ge {l : Int} {n : Nat} (h : (n : Int) ≤ l) : szRI l n = l - n := if_neg (by omega)


def nilSlI : SlI := ((none, 0, 0), [])
theorem made_slicesI (n : Nat) : (madeCells (Value.slice none 0 0).cells (n * 1)).toList = (List.replicate n nilSlI).map slVI := by
  have : (Value.slice none 0 0).cells = #[.slice none 0 0] := rfl
  rw [this, Nat.mul_one, toList_madeCells_one]
  simp [nilSlI, slVI]
theorem set_nextI {α : Type} (ss : List α) (x d : α) (n : Nat) (h : ss.length < n) : (ss ++ List.replicate (n - ss.length) d).set ss.length x = (ss ++ [x]) ++ List.replicate (n - (ss.length + 1)) d := by
  rw [List.set_append_right _ _ (Nat.le_refl _), Nat.sub_self]
  have : n - ss.length = (n - (ss.length + 1)) + 1 := by omega
  rw [this, List.replicate_succ]
  simp


end Go.Proofs.Ytdpnkojchimmfaa

/- 'append' of a nil slice: nothing happens. -/
namespace Go.Proofs.Ytdpnkojchimmfaa
open Go.RowKit

theorem run_append_none {P : Program} {w : World} (t ty e : TypeId) (i : TypeInfo) (ht : P.underlying t = some (.slice e)) (hi : P.info? e = some i) (b : Option Addr) (n c c' : Nat) (hnc : n ≤ c) :
    (Builtin.append_ #[t, t] ty #[.slice b n c, .slice none 0 c']).run P w = .ok (.slice b n c) w := by
  cases b with
  | none => simp [Builtin.append_, run_underlying ht, sizeOf, typeInfo, hi, Builtin.lenOf, hnc, Builtin.firstCells]
  | some a => simp [Builtin.append_, run_underlying ht, sizeOf, typeInfo, hi, Builtin.lenOf, hnc, Builtin.firstCells, storeCells]

theorem wpList_append_none {P : Program} {w : World} {ops : Array Oper} {rest : List Oper} {o : Oper} {a : Act} {Q : Exit → Act → World → Prop} (hgd : o.guard = none) (s x : Operand) (t : TypeId)
    (ho : o.op = .call { callee := .builtin .append, args := #[s, x], argTypes := #[t, t] })
    (e : TypeId) (i : TypeInfo) (ht : P.underlying t = some (.slice e)) (hi : P.info? e = some i) (b : Option Addr) (n c c' : Nat) (hs : a.eval s = .slice b n c) (hx : a.eval x = .slice none 0 c') (hnc : n ≤ c)
    (h : wpList P ops Q rest (a.put o.dst (.slice b n c)) w) : wpList P ops Q (o :: rest) a w :=
  wpList_plain hgd fun _ hK => by
    have hr := run_append_none (P := P) (w := w) t o.type e i ht hi b n c c' hnc
    unfold Oper.wp execOp
    simp only [ho, resolve, invoke, builtin, Sem.run_bind, Sem.run_pure, Result.andThen_ok, List.map_toArray, List.map_cons, List.map_nil, hs, hx, hr]
    exact hK _ _ h
end Go.Proofs.Ytdpnkojchimmfaa

/- Lists of int64: the reference's l01Has, l01Same, l01Less, l01Own; slices.Index, slices.Equal. -/
namespace Go.Proofs.Ytdpnkojchimmfaa
open Go.RowKit

theorem same_get {xs ys : List Int} (hl : xs.length = ys.length) (h : ∀ j, j < xs.length → xs[j]? = ys[j]?) : xs = ys := List.ext_getElem? fun j => by
  rcases Nat.lt_or_ge j xs.length with h1 | h1
  · exact h j h1
  · rw [List.getElem?_eq_none h1, List.getElem?_eq_none (by omega)]
theorem ints_src {w w' : World} {b o K : Nat} {xs : List Int} (h : ∀ k, k < xs.length → ∃ x, xs[k]? = some x ∧ w.cell? ⟨b, o + k, none⟩ = some (.int .i64 x)) (hb : Below K w w') (hk : w.heap.size ≤ K) : ∀ j q, (xs.map (Value.int .i64))[j]? = some q → w'.cell? ((⟨b, o, none⟩ : Addr).add j) = some q := by
  intro j q hq
  rw [List.getElem?_map, Option.map_eq_some_iff] at hq
  obtain ⟨x, hx, rfl⟩ := hq
  obtain ⟨y, hy, hc⟩ := h j (List.getElem?_eq_some_iff.1 hx).1
  rw [hx] at hy
  obtain rfl := Option.some.inj hy
  rw [Addr.add_lit]
  exact (hb.cell (p := ⟨b, o + j, none⟩) (by have h8 : b < w.heap.size := World.block_lt_of_cell? w _ hc; show b < K; omega)).trans hc
theorem ints_oneCell (xs : List Int) : ∀ u ∈ xs.map (Value.int .i64), u.oneCell' = true := by
  intro u hu
  obtain ⟨x, _, rfl⟩ := List.mem_map.1 hu
  rfl
/-- The first place of a number in a list. -/
def firstAt (xs : List Int) (x : Int) (i : Int) : Prop := (i = -1 ∧ x ∉ xs) ∨ ∃ k : Nat, i = k ∧ xs[k]? = some x ∧ ∀ j y, j < k → xs[j]? = some y → y ≠ x

theorem l01Has_any (v : Value) (xs : List Int) (x : Int) (w : World) (h : Ints w v xs) :
    Calls Try.prog 58 #[v, .int .i64 x] w fun e w' => e = .returned (.bool (decide (x ∈ xs))) ∧ w = w' := by
  obtain ⟨hm, a, c, b, o, rfl, hc, h0, hcell⟩ := h.opened
  unfold maxLen at hm
  clear h
  rcases h0 with h0 | ⟨h0, rfl⟩
  all_goals
    go_enter Try.func58, Try.ntmps58
    go_wp2_with fail
    go_loop [5] (fun i => ∃ k : Nat, k ≤ xs.length ∧ i = .int .i64 k ∧ Hid (∀ j y, j < k → xs[j]? = some y → y ≠ x)) (fun i => xs.length - (intOf i).toNat)
    case atStart => exact ⟨0, Nat.zero_le _, rfl, fun j y hj => by omega⟩
    case round =>
      obtain ⟨k, hk, rfl, hall⟩ := hrel
      by_cases hlt : k < xs.length
      · all_goals try (exfalso; omega)
        all_goals
          obtain ⟨y, hy, hcy⟩ := hcell.out k hlt
          have hy := Lib.hid hy
          cases hin : (y == x)
          · have hne := Lib.hid (show y ≠ x by simpa using hin)
            go_wp2_with fail
            go_round
            case rel =>
              refine ⟨k + 1, by omega, by go_num, fun j z hj hz => ?_⟩
              rcases Nat.lt_or_ge j k with h2 | h2
              · exact hall.out j z h2 hz
              · obtain rfl : j = k := by omega
                rw [hy.out] at hz
                obtain rfl := Option.some.inj hz
                exact hne.out
            case measure => simp [intOf]; omega
          · have hf := Lib.hid (show decide (x ∈ xs) = true by
              obtain rfl : y = x := by simpa using hin
              exact decide_eq_true (List.mem_of_getElem? hy.out))
            go_wp2_with fail
            go_ret
            exact ⟨ret_bool hf.out.symm, rfl⟩
      · obtain rfl : k = xs.length := by omega
        have hf := Lib.hid (show decide (x ∈ xs) = false by
          refine decide_eq_false fun hx => ?_
          obtain ⟨j, hj⟩ := List.getElem?_of_mem hx
          exact hall.out j x (List.getElem?_eq_some_iff.1 hj).1 hj rfl)
        go_wp2_with fail
        go_ret
        exact ⟨ret_bool hf.out.symm, rfl⟩



end Go.Proofs.Ytdpnkojchimmfaa
