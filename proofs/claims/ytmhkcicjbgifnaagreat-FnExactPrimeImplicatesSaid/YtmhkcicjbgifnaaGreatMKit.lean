/- Plain lemmas on worlds, owned rows and readings of slices, that every walk of this seat uses. No function of the program is walked here. -/
import Derived.WalkKit
import Derived.ProofKit
import Derived.OpenShut
import Derived.ShutString
import Derived.ChangeOld
import Derived.Below
import Derived.WalkSpells
import Derived.WalkLawsBesides
import Derived.Lib.Hide
import Derived.Deep.QuietTactic
import Derived.BigQuiet

namespace Go.Proofs.YtmhkcicjbgifnaaGreat
open Go.RowKit

/-- What is owned stays owned where all blocks that are there stay as they are. -/
theorem own_below {w w' : World} {B K : Nat} {e : TypeId} {s : Nat} {v : Value} {n : Nat} {xs : List Value} (h : w.ownsRow B e s v n xs) (hb : Below K w w') (hk : w.heap.size ≤ K) : w'.ownsRow B e s v n xs :=
  h.kept (row := none) ⟨hb.os, hb.tape, hb.output, hb.size, fun k hk' _ => hb.block k (by omega)⟩ (by cases v.ownBlock <;> simp)

theorem own_mono {w : World} {B B' : Nat} {e : TypeId} {s : Nat} {v : Value} {n : Nat} {xs : List Value} (h : w.ownsRow B e s v n xs) (hb : B' ≤ B) : w.ownsRow B' e s v n xs := by
  refine ⟨h.1, ?_⟩
  rcases h.2 with h2 | ⟨g, cap, cur, hv, hg, r⟩
  · exact .inl h2
  · exact .inr ⟨g, cap, cur, hv, Nat.le_trans hb hg, r⟩

/-- What was made before another row is as it was when that row is written. -/
theorem own_apart {w3 w4 : World} {B B' : Nat} {e e' : TypeId} {s s' : Nat} {v v' : Value} {n n' : Nat} {xs xs' : List Value} (h : w3.ownsRow B e s v n xs) (h' : w3.ownsRow B' e' s' v' n' xs')
    (hlt : ∀ k, v.ownBlock = some k → k < B') (hg : w3.grownBy w4 v'.ownBlock) : w4.ownsRow B e s v n xs := by
  refine h.kept hg ?_
  cases hv : v.ownBlock with
  | none => exact .inl rfl
  | some k =>
    right
    intro hc
    have h1 := (h'.lt k hc.symm).1
    have h2 := hlt k hv
    omega

/-- What was made behind another row is as it was when that row is written. -/
theorem own_apart2 {w3 w4 : World} {B : Nat} {e : TypeId} {s : Nat} {v v' : Value} {n : Nat} {xs : List Value} (h : w3.ownsRow B e s v n xs)
    (hlt : ∀ k, v'.ownBlock = some k → k < B) (hg : w3.grownBy w4 v'.ownBlock) : w4.ownsRow B e s v n xs := by
  refine h.kept hg ?_
  cases hv : v.ownBlock with
  | none => exact .inl rfl
  | some k =>
    right
    intro hc
    have h1 := (h.lt k hv).1
    have h2 := hlt k hc.symm
    omega

theorem own_lt {w : World} {B : Nat} {e : TypeId} {s : Nat} {v : Value} {n : Nat} {xs : List Value} (h : w.ownsRow B e s v n xs) : ∀ k, v.ownBlock = some k → k < w.heap.size := fun k hk => (h.lt k hk).2

/-- A row of one's own is written: what lay below its base is as it was. -/
theorem below_mark {w w' : World} {B K : Nat} {e : TypeId} {s : Nat} {v : Value} {n : Nat} {xs : List Value} (h : w.ownsRow B e s v n xs) (hg : w.grownBy w' v.ownBlock) (hK : K ≤ B) (hK' : K ≤ w.heap.size) : Below K w w' :=
  (Below.refl K w).grown hg hK' (fun k hk => Nat.le_trans hK (h.lt k hk).1)

/-- Blocks below B are as they were, whatever one row from B on has been written. -/
theorem below_of_grownBy {w w' : World} {B : Nat} {row : Option Nat} (hg : w.grownBy w' row) (hB : B ≤ w.heap.size) (hr : ∀ k, row = some k → B ≤ k) : Below B w w' :=
  (Below.refl B w).grown hg hB hr

/-- v is a slice of n elements of k cells each, and its cells read cs. -/
def Reads (w : World) (k : Nat) (v : Value) (n : Nat) (cs : List Value) : Prop :=
  cs.length = n * k ∧ n ≤ maxLen ∧ ∃ a c b o, v = .slice a n c ∧ n ≤ c ∧ (0 < n → a = some ⟨b, o, none⟩) ∧ ∀ i u, cs[i]? = some u → w.cell? ⟨b, o + i, none⟩ = some u

theorem reads_of_own {w : World} {B : Nat} {e : TypeId} {s : Nat} {v : Value} {n : Nat} {xs : List Value} (h : w.ownsRow B e s v n xs) : Reads w s v n xs := by
  refine ⟨h.1, ?_⟩
  have hl := h.1
  rcases h.2 with ⟨rfl, rfl⟩ | ⟨g, cap, cur, rfl, hb, hg, hnc, hcm, hcs, ht⟩
  · have hx : xs = [] := List.eq_nil_of_length_eq_zero (by simpa using hl)
    exact ⟨by simp, none, 0, 0, 0, rfl, Nat.le_refl _, by simp, by simp [hx]⟩
  · refine ⟨Nat.le_trans hnc hcm, _, _, g, 0, rfl, hnc, fun _ => rfl, fun i u hu => ?_⟩
    have := h.cells (g := g) rfl i u hu
    rw [Addr.add_lit] at this
    exact this

theorem Reads.below {w w' : World} {k : Nat} {v : Value} {n : Nat} {cs : List Value} {K : Nat} (h : Reads w k v n cs) (hb : Below K w w') (hk : w.heap.size ≤ K) : Reads w' k v n cs := by
  obtain ⟨h1, h2, a, c, b, o, hv, hc, ha, hcell⟩ := h
  refine ⟨h1, h2, a, c, b, o, hv, hc, ha, fun i u hu => ?_⟩
  have h3 := hcell i u hu
  have hlt : b < w.heap.size := World.block_lt_of_cell? w _ h3
  exact (hb.cell (p := ⟨b, o + i, none⟩) (by show b < K; omega)).trans h3

/-- A slice of int64. -/
def Ints (w : World) (v : Value) (xs : List Int) : Prop := Reads w 1 v xs.length (xs.map (Value.int .i64))

theorem Ints.below {w w' : World} {v : Value} {xs : List Int} {K : Nat} (h : Ints w v xs) (hb : Below K w w') (hk : w.heap.size ≤ K) : Ints w' v xs := Reads.below h hb hk

theorem ints_of_own {w : World} {B : Nat} {e : TypeId} {v : Value} {n : Nat} {xs : List Int} (h : w.ownsRow B e 1 v n (xs.map (Value.int .i64))) : Ints w v xs := by
  have hn : n = xs.length := by have := h.1; simp at this; omega
  subst hn
  exact reads_of_own h

theorem Ints.opened {w : World} {v : Value} {xs : List Int} (h : Ints w v xs) : xs.length ≤ maxLen ∧ ∃ a c b o, v = .slice a xs.length c ∧ xs.length ≤ c ∧ (xs.length ≤ 0 ∨ 0 < xs.length ∧ a = some ⟨b, o, none⟩) ∧
    Hid (∀ k, k < xs.length → ∃ x, xs[k]? = some x ∧ w.cell? ⟨b, o + k, none⟩ = some (.int .i64 x)) := by
  obtain ⟨_, h2, a, c, b, o, hv, hc, ha, hcell⟩ := h
  refine ⟨h2, a, c, b, o, hv, hc, ?_, fun k hk => ⟨xs[k], by simp [hk], hcell k _ (by simp [hk])⟩⟩
  rcases Nat.eq_zero_or_pos xs.length with h | h
  · exact .inl (by omega)
  · exact .inr ⟨h, ha h⟩

theorem Ints.cap {w : World} {v : Value} {xs : List Int} (h : Ints w v xs) : xs.length ≤ maxLen := h.2.1

/-- The numbers k, k + 1, .. that the laws write into a result's memory. -/
def marks (k : Int) : Nat → List Int
  | 0 => []
  | n + 1 => k :: marks (k + 1) n

theorem marks_length (k : Int) (n : Nat) : (marks k n).length = n := by
  induction n generalizing k with
  | zero => rfl
  | succ n ih => simp [marks, ih]

theorem marks_get (k : Int) (n i : Nat) (h : i < n) : (marks k n)[i]? = some (k + i) := by
  induction n generalizing k i with
  | zero => omega
  | succ n ih =>
    cases i with
    | zero => simp [marks]
    | succ i =>
      simp only [marks, List.getElem?_cons_succ]
      rw [ih (k + 1) i (by omega)]
      congr 1
      omega

/-- Writing element k. -/
theorem set_take_drop {α : Type} (as bs : List α) (k : Nat) (x : α) (hx : as[k]? = some x) (hk : k < bs.length) : (as.take k ++ bs.drop k).set k x = as.take (k + 1) ++ bs.drop (k + 1) := by
  have hka : k < as.length := (List.getElem?_eq_some_iff.1 hx).1
  apply List.ext_getElem?
  intro i
  have e1 : (as.take k).length = k := by simp; omega
  have e2 : (as.take (k + 1)).length = k + 1 := by simp; omega
  have hlen : (as.take k ++ bs.drop k).length = bs.length := by simp; omega
  rw [List.getElem?_set]
  by_cases h : k = i
  · subst h
    rw [if_pos rfl, if_pos (by omega), List.getElem?_append_left (by omega), List.getElem?_take, if_pos (by omega), hx]
  · rw [if_neg h]
    by_cases h2 : i < k
    · rw [List.getElem?_append_left (by omega), List.getElem?_append_left (by omega), List.getElem?_take, List.getElem?_take, if_pos h2, if_pos (by omega)]
    · rw [List.getElem?_append_right (by omega), List.getElem?_append_right (by omega), e1, e2, List.getElem?_drop, List.getElem?_drop]
      congr 1
      omega

/-- Element k of an owned row of one-cell elements is written. -/
theorem own_store {α : Type} {w : World} {B : Nat} {e : TypeId} {g n cap k : Nat} {as bs : List α} {f : α → Value} {x : α}
    (h : w.ownsRow B e 1 (.slice (some ⟨g, 0, none⟩) n cap) n ((as.take k ++ bs.drop k).map f)) (hx : as[k]? = some x) (hk : k < bs.length) :
    (w.setCell ⟨g, k, none⟩ (f x)).ownsRow B e 1 (.slice (some ⟨g, 0, none⟩) n cap) n ((as.take (k + 1) ++ bs.drop (k + 1)).map f) := by
  have := (h.stored k (f x)).1
  rw [← List.map_set, set_take_drop as bs k x hx hk] at this
  exact this

/-- What stands in cell k of such a row, and that it may be written. -/
theorem own_cell {α : Type} {w : World} {B : Nat} {e : TypeId} {g n cap k : Nat} {zs : List α} {f : α → Value}
    (h : w.ownsRow B e 1 (.slice (some ⟨g, 0, none⟩) n cap) n (zs.map f)) (hk : k < n) : (∃ z, zs[k]? = some z ∧ w.cell? ⟨g, k, none⟩ = some (f z)) ∧ w.frozen? ⟨g, k, none⟩ = false := by
  refine ⟨?_, h.frozenAt k⟩
  have hl : zs.length = n := by have := h.1; simpa using this
  refine ⟨zs[k]'(by omega), by simp [hl, hk], ?_⟩
  rw [h.cellAt k (by omega)]
  simp [hl, hk]

theorem made_one (z : Value) (n : Nat) : (madeCells z.cells (n * z.cells.size)).toList = List.replicate n z ∨ z.cells.size ≠ 1 ∨ z.cells ≠ #[z] := by
  by_cases h : z.cells = #[z]
  · left
    rw [h]
    simpa using toList_madeCells_one z n
  · exact .inr (.inr h)

theorem made_ints (n : Nat) (k : Int) : (madeCells (Value.int .i64 k).cells (n * 1)).toList = ((List.replicate n k)).map (Value.int .i64) := by
  have : (Value.int .i64 k).cells = #[.int .i64 k] := rfl
  rw [this, Nat.mul_one, toList_madeCells_one]
  simp

/-- For the cells that a region's loads want, over a draw and over a callee that turns nothing. -/
theorem keep_step {w W w' : World} (h' : Below W.heap.size W w') (h : Below w.heap.size w W) : Below w.heap.size w w' := h.trans (h'.mono h.size)
theorem keep_cell {W w' : World} {p : Addr} {v : Value} (h' : Below W.heap.size W w') (h : W.cell? p = some v) : w'.cell? p = some v := (h'.cell (World.block_lt_of_cell? W p h)).trans h

/-- A callee that leaves the world alone, at its call inside a region that draws. -/
theorem quiet_eq {P : Program} {f : FuncId} {args : Array Value} {w : World} {n : Nat} {v : Value}
    (h : Calls P f args (w.drewN n) fun e w' => e = .returned v ∧ w.drewN n = w') : Calls P f args (w.drewN n) fun e w'' => e = .returned v ∧ ∃ m, w'' = w.drewN m :=
  h.mono fun _ _ ⟨he, hm⟩ => ⟨he, n, hm.symm⟩

theorem ret_int {k : IntKind} {a b : Int} (h : a = b) : Ending.returned (.int k a) = .returned (.int k b) := by rw [h]
theorem ret2_int {k k' : IntKind} {a b c d : Int} (h : a = c) (h' : b = d) : Ending.returned (.tuple #[.int k a, .int k' b]) = .returned (.tuple #[.int k c, .int k' d]) := by rw [h, h']
theorem ret_bool {a b : Bool} (h : a = b) : Ending.returned (.bool a) = .returned (.bool b) := by rw [h]

theorem below_drewN' {w : World} (n : Nat) (B : Nat) : Below B w (w.drewN n) := below_drewN (Below.refl B w) n

end Go.Proofs.YtmhkcicjbgifnaaGreat
