/- Lists of lists of int64 under construction. (turned from XCompose) -/
import Derived.Test.YtmhkcicjbgifnaaGreatMIntSSRow
import Derived.Test.YtmhkcicjbgifnaaGreatMKit
import Derived.Maps.RangeWalk

namespace Go.Proofs.YtmhkcicjbgifnaaGreat
open Go.RowKit

/-- A list of formulas under construction: the list and its elements lie in blocks of their own from K on. -/
structure GrowI (K : Nat) (w : World) (v : Value) (ss : List SlI) : Prop where
  own : w.ownsRow K 48 1 v ss.length (ss.map slVI)
  row : ∀ s ∈ ss, w.ownsRow K 2 1 (slVI s) s.2.length (s.2.map (Value.int .i64))
  ap : ∀ s ∈ ss, ∀ k, v.ownBlock = some k → (slVI s).ownBlock ≠ some k
  pw : ss.Pairwise fun s t => ∀ k, (slVI s).ownBlock = some k → (slVI t).ownBlock ≠ some k
  ks : K ≤ w.heap.size

theorem GrowI.nil {K : Nat} {w : World} (h : K ≤ w.heap.size) : GrowI K w (.slice none 0 0) [] := ⟨World.ownsRow_nil _ _ _ _, fun _ h => absurd h List.not_mem_nil, fun _ h => absurd h List.not_mem_nil, List.Pairwise.nil, h⟩
theorem GrowI.below {K : Nat} {w w' : World} {v : Value} {ss : List SlI} (h : GrowI K w v ss) (hb : Below w.heap.size w w') : GrowI K w' v ss :=
  ⟨own_below h.own hb (Nat.le_refl _), fun s hs => own_below (h.row s hs) hb (Nat.le_refl _), h.ap, h.pw, Nat.le_trans h.ks hb.size⟩

/-- A formula in new memory is appended. -/
theorem GrowI.add {K : Nat} {w w1 w2 : World} {v v1 : Value} {ss : List SlI} {s : SlI} (h : GrowI K w v ss) (b : Below w.heap.size w w1) (hr : w1.ownsRow w.heap.size 2 1 (slVI s) s.2.length (s.2.map (Value.int .i64)))
    (ho : w2.ownsRow K 48 1 v1 (ss.length + 1) (ss.map slVI ++ [slVI s])) (hg : w1.grownBy w2 v.ownBlock) (hk : v1.ownBlock = v.ownBlock ∨ v1.ownBlock = some w1.heap.size) : GrowI K w2 v1 (ss ++ [s]) := by
  have hv : ∀ k, v.ownBlock = some k → k < w.heap.size := own_lt h.own
  have hs : ∀ t ∈ ss, ∀ k, (slVI t).ownBlock = some k → k < w.heap.size := fun t ht => own_lt (h.row t ht)
  have hn : ∀ k, (slVI s).ownBlock = some k → w.heap.size ≤ k ∧ k < w1.heap.size := fun k hk => hr.lt k hk
  have hsz := b.size
  refine ⟨by rw [List.length_append, List.map_append]; exact ho, fun t ht => ?_, fun t ht k hk1 => ?_, ?_, Nat.le_trans h.ks (Nat.le_trans b.size hg.size)⟩
  · rcases List.mem_append.1 ht with ht | ht
    · exact row_same (own_below (h.row t ht) b (Nat.le_refl _)) fun k hk1 _ hl => hg.block k hl fun e => h.ap t ht k e.symm hk1
    · obtain rfl : t = s := by simpa using ht
      exact row_same (own_mono hr h.ks) fun k hk1 _ hl => hg.block k hl fun e => by
        have h1 := hv k e.symm
        have h2 := (hn k hk1).1
        omega
  · have hlt : ∀ j, (slVI t).ownBlock = some j → j < w1.heap.size := by
      intro j hj
      rcases List.mem_append.1 ht with ht | ht
      · have := hs t ht j hj; omega
      · obtain rfl : t = s := by simpa using ht
        exact (hn j hj).2
    rcases hk with hk | hk
    · rw [hk] at hk1
      rcases List.mem_append.1 ht with ht | ht
      · exact h.ap t ht k hk1
      · obtain rfl : t = s := by simpa using ht
        intro e
        have h1 := hv k hk1
        have h2 := (hn k e).1
        omega
    · rw [hk] at hk1
      obtain rfl : w1.heap.size = k := by simpa using hk1
      intro e
      exact Nat.lt_irrefl _ (hlt _ e)
  · rw [List.pairwise_append]
    refine ⟨h.pw, List.pairwise_singleton _ _, fun t ht u hu k hk1 hk2 => ?_⟩
    obtain rfl : u = s := by simpa using hu
    have h1 := hs t ht k hk1
    have h2 := (hn k hk2).1
    omega

theorem GrowI.slices {K : Nat} {w : World} {v : Value} {ss : List SlI} (h : GrowI K w v ss) : SlicesI w v ss := reads_of_own h.own
theorem GrowI.ownII {K : Nat} {w : World} {v : Value} {ss : List SlI} (h : GrowI K w v ss) : OwnII K w.heap.size w v (ss.map Prod.snd) :=
  ownII_of_sl h.slices h.row (fun s hs k hk => ⟨((h.row s hs).lt k hk).2, fun e => h.ap s hs k e hk⟩) h.pw (fun k hk => h.own.lt k hk) (Nat.le_refl _)

theorem OwnII.mono {lo lo' hi : Nat} {w : World} {v : Value} {Is : List (List Int)} (h : OwnII lo hi w v Is) (hl : lo' ≤ lo) : OwnII lo' hi w v Is := by
  obtain ⟨hs, h⟩ := h
  exact ⟨hs, h.out, h.len, fun j hd I h1 h2 => own_mono (h.row j hd I h1 h2) hl, h.lt, h.ap, fun k hk => ⟨Nat.le_trans hl (h.vlt k hk).1, (h.vlt k hk).2⟩, h.top⟩
theorem OwnII.up {lo hi : Nat} {w : World} {v : Value} {Is : List (List Int)} (h : OwnII lo hi w v Is) (hl : hi ≤ w.heap.size) : OwnII lo w.heap.size w v Is := by
  obtain ⟨hs, h⟩ := h
  exact ⟨hs, h.out, h.len, h.row, fun x hx k hk => ⟨Nat.lt_of_lt_of_le (h.lt x hx k hk).1 hl, (h.lt x hx k hk).2⟩, h.ap, fun k hk => ⟨(h.vlt k hk).1, Nat.lt_of_lt_of_le (h.vlt k hk).2 hl⟩, Nat.le_refl _⟩
theorem OwnII.nil (w : World) (lo : Nat) : OwnII lo w.heap.size w (.slice none 0 0) [] :=
  ⟨[], ⟨rfl, by simp, none, 0, 0, 0, rfl, Nat.le_refl _, by simp, by simp⟩, rfl, fun j h I h1 => by simp at h1, fun _ h => absurd h List.not_mem_nil, fun i j h h' k _ h1 => by simp at h1, fun k hk => by simp [Value.ownBlock] at hk, Nat.le_refl _⟩
end Go.Proofs.YtmhkcicjbgifnaaGreat

/- A map keyed by int64 as a plain function of its keys: made, read, written, ranged over. No program is named here. -/
namespace Go.Proofs.YtmhkcicjbgifnaaGreat
open Go.RowKit Go.Maps
set_option linter.unusedVariables false

/-- Any value reads as itself. -/
def heldElem (v : Value) : Option (DataW Value × List MemPlace) := some (.held v, [])
/-- D reads as the function f. -/
def ReadsF (D : DataW Value) (f : Int → Option Value) : Prop := ∀ x : Int, (∀ zd, D.atKey (.int .i64 x) zd = match f x with | some v => .held v | none => zd) ∧ Maps.has D (.int .i64 x) = (f x).isSome
/-- Block b of w is a map of at most n entries: the function f. -/
def MapV (P : Program) (k : TypeId) (w : World) (b n : Nat) (f : Int → Option Value) : Prop := ∃ D : DataW Value, w.ownsMap P k heldElem b n D ∧ ReadsF D f
def setF (f : Int → Option Value) (x : Int) (v : Value) : Int → Option Value := fun y => if y = x then some v else f y
def delF (f : Int → Option Value) (x : Int) : Int → Option Value := fun y => if y = x then none else f y
theorem lit_ne {x y : Int} (h : y ≠ x) : (Lit.int .i64 y) ≠ .int .i64 x := fun e => h (by injection e)
theorem ReadsF.put {D : DataW Value} {f : Int → Option Value} (h : ReadsF D f) (hm : IsMap D) (x : Int) (v : Value) : ReadsF (D.put (.int .i64 x) (.held v)) (setF f x v) := by
  intro y
  unfold setF
  by_cases e : y = x
  · subst e
    rw [if_pos rfl]
    exact ⟨fun zd => atKey_put_same hm (show Go.WideAt.IsKeyLit (.int .i64 y) from trivial) _ _, has_put_same hm (show Go.WideAt.IsKeyLit (.int .i64 y) from trivial) _⟩
  · rw [if_neg e]
    exact ⟨fun zd => by rw [atKey_put_other (lit_ne e)]; exact (h y).1 zd, by rw [has_put_other (lit_ne e)]; exact (h y).2⟩
theorem ReadsF.del {D : DataW Value} {f : Int → Option Value} (h : ReadsF D f) (x : Int) : ReadsF (D.del (.int .i64 x)) (delF f x) := by
  intro y
  unfold delF
  by_cases e : y = x
  · subst e
    rw [if_pos rfl]
    exact ⟨fun zd => atKey_del_same zd, has_del_same⟩
  · rw [if_neg e]
    exact ⟨fun zd => by rw [atKey_del_other (lit_ne e)]; exact (h y).1 zd, by rw [has_del_other (lit_ne e)]; exact (h y).2⟩
theorem mapV_made (P : Program) (k : TypeId) (w : World) : MapV P k (w.alloc (.map #[] 0)) w.heap.size 0 (fun _ => none) := ⟨_, World.ownsMap_made w P k heldElem, fun x => ⟨fun zd => rfl, rfl⟩⟩
theorem MapV.lt {P : Program} {k : TypeId} {w : World} {b n : Nat} {f : Int → Option Value} (h : MapV P k w b n f) : b < w.heap.size := by obtain ⟨D, h, _⟩ := h; exact h.lt
theorem MapV.kept {P : Program} {k : TypeId} {w w' : World} {b n : Nat} {f : Int → Option Value} {row : Option Nat} (h : MapV P k w b n f) (hg : w.grownBy w' row) (hne : some b ≠ row) : MapV P k w' b n f := by obtain ⟨D, h, r⟩ := h; exact ⟨D, h.kept hg hne, r⟩
theorem MapV.below {P : Program} {k : TypeId} {w w' : World} {b n : Nat} {f : Int → Option Value} (h : MapV P k w b n f) (hb : Below w.heap.size w w') : MapV P k w' b n f :=
  h.kept (row := none) ⟨hb.os, hb.tape, hb.output, hb.size, fun j hj _ => hb.block j hj⟩ (by simp)
theorem MapV.mono {P : Program} {k : TypeId} {w : World} {b n n' : Nat} {f : Int → Option Value} (h : MapV P k w b n f) (hn : n ≤ n') : MapV P k w b n' f := by obtain ⟨D, h, r⟩ := h; exact ⟨D, h.mono hn, r⟩

section
variable {P : Program} {w : World} {ops : Array Oper} {rest : List Oper} {o : Oper} {a : Act} {Q : Exit → Act → World → Prop}

theorem wpList_lookup_mapV (hg : o.guard = none) (m x : Operand) (t : TypeId) (hop : o.op = Op.lookup t m x false)
    (k e : TypeId) (hk : P.underlying k = some (.int .i64)) (ht : P.underlying t = some (.map k e)) {z : Value} (hz : (zeroValue e).run P w = .ok z w) (b n : Nat) (f : Int → Option Value)
    (hm : a.eval m = .map (some b)) (hown : MapV P k w b n f) (y : Int) (hx : a.eval x = .int .i64 y) (hw : (Lit.int .i64 y).wf = true)
    (hK : wpList P ops Q rest (a.put o.dst ((f y).getD z)) w) : wpList P ops Q (o :: rest) a w := by
  refine wpList_plain hg fun K' hK' => ?_
  obtain ⟨D, hD, hr⟩ := hown
  obtain ⟨v, ps, hrun, hv⟩ := hD.lookup (int_keyed hk) ht hz (zd := .held z) (zp := []) rfl (keyOf_int_mk hk hw)
  have hv2 : v = (f y).getD z := by
    have h1 : (DataW.held v : DataW Value) = D.atKey (.int .i64 y) (.held z) := by
      unfold heldElem at hv
      have := Option.some.inj hv
      exact congrArg Prod.fst this
    rw [(hr y).1] at h1
    cases hf : f y with
    | none => rw [hf] at h1; injection h1
    | some u => rw [hf] at h1; injection h1
  subst hv2
  unfold Oper.wp
  simp [execOp, hop, hm, hx, hrun, Result.andThen]
  exact hK' _ _ hK
theorem wpList_lookup_ok_mapV (hg : o.guard = none) (m x : Operand) (t : TypeId) (hop : o.op = Op.lookup t m x true)
    (k e : TypeId) (hk : P.underlying k = some (.int .i64)) (ht : P.underlying t = some (.map k e)) {z : Value} (hz : (zeroValue e).run P w = .ok z w) (b n : Nat) (f : Int → Option Value)
    (hm : a.eval m = .map (some b)) (hown : MapV P k w b n f) (y : Int) (hx : a.eval x = .int .i64 y) (hw : (Lit.int .i64 y).wf = true)
    (hK : wpList P ops Q rest (a.put o.dst (.tuple #[(f y).getD z, .bool (f y).isSome])) w) : wpList P ops Q (o :: rest) a w := by
  refine wpList_plain hg fun K' hK' => ?_
  obtain ⟨D, hD, hr⟩ := hown
  obtain ⟨v, ps, hrun, hv⟩ := hD.look_ok (int_keyed hk) ht hz (zd := .held z) (zp := []) rfl (keyOf_int_mk hk hw)
  have hv2 : v = (f y).getD z := by
    have h1 : (DataW.held v : DataW Value) = D.atKey (.int .i64 y) (.held z) := by
      unfold heldElem at hv
      have := Option.some.inj hv
      exact congrArg Prod.fst this
    rw [(hr y).1] at h1
    cases hf : f y with
    | none => rw [hf] at h1; injection h1
    | some u => rw [hf] at h1; injection h1
  subst hv2
  rw [(hr y).2] at hrun
  unfold Oper.wp
  simp [execOp, hop, hm, hx, hrun, Result.andThen]
  exact hK' _ _ hK
theorem wpList_update_mapV (hg : o.guard = none) (m x v : Operand) (t : TypeId) (hop : o.op = Op.mapUpdate t m x v)
    (k e : TypeId) (hk : P.underlying k = some (.int .i64)) (ht : P.underlying t = some (.map k e)) (b n : Nat) (f : Int → Option Value)
    (hm : a.eval m = .map (some b)) (hown : MapV P k w b n f) (hn : n < maxLen) (y : Int) (val : Value) (hx : a.eval x = .int .i64 y) (hv : a.eval v = val) (hw : (Lit.int .i64 y).wf = true)
    (hK : ∀ w', MapV P k w' b (n + 1) (setF f y val) → w.grownBy w' (some b) → wpList P ops Q rest (a.put o.dst undef) w') : wpList P ops Q (o :: rest) a w := by
  obtain ⟨D, hD, hr⟩ := hown
  exact wpList_mapUpdate_own w hg m x v t hop k e (int_keyed hk) ht heldElem b n D hm hD hn _ _ _ hx hv (keyOf_int_mk hk hw) (.held val) [] rfl (fun w' h1 h2 => hK w' ⟨_, h1, hr.put hD.isMap y val⟩ h2)
theorem wpList_delete_mapV (hg : o.guard = none) (m x : Operand) (t k : TypeId) (hop : o.op = Op.call { callee := Callee.builtin Builtin.delete, args := #[m, x], argTypes := #[t, k] })
    (e : TypeId) (hk : P.underlying k = some (.int .i64)) (ht : P.underlying t = some (.map k e)) (b n : Nat) (f : Int → Option Value)
    (hm : a.eval m = .map (some b)) (hown : MapV P k w b n f) (y : Int) (hx : a.eval x = .int .i64 y) (hw : (Lit.int .i64 y).wf = true)
    (hK : ∀ w', MapV P k w' b n (delF f y) → w.grownBy w' (some b) → wpList P ops Q rest (a.put o.dst (.tuple #[])) w') : wpList P ops Q (o :: rest) a w := by
  obtain ⟨D, hD, hr⟩ := hown
  exact wpList_delete_own w hg m x t k hop e (int_keyed hk) ht heldElem b n D hm hD _ _ hx (keyOf_int_mk hk hw) (fun w' h1 h2 => hK w' ⟨_, h1, hr.del y⟩ h2.grown)
end
end Go.Proofs.YtmhkcicjbgifnaaGreat
