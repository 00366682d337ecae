/- A map keyed by int64 as a plain function of its keys: made, read, written, ranged over. No program is named here. -/
import Derived.Test.YtobbhflajkhcdaaKit
import Derived.Maps.RangeWalk
namespace Go.Proofs.Ytobbhflajkhcdaa
open Go.RowKit Go.Maps
set_option linter.unusedVariables false

/-- Any value reads as itself. -/
def heldElem (v : Value) : Option (DataW Value × List MemPlace) := some (.held v, [])
/-- D reads as the function f. -/
def ReadsF (D : DataW Value) (f : Int → Option Value) : Prop := ∀ x : Int, (∀ zd, D.atKey (.int .i64 x) zd = match f x with | some v => .held v | none => zd) ∧ Maps.has D (.int .i64 x) = (f x).isSome
/-- Block b of w is a map of at most n entries: the function f. -/
def MapV (P : Program) (k : TypeId) (w : World) (b n : Nat) (f : Int → Option Value) : Prop := ∃ D : DataW Value, w.ownsMap P k heldElem b n D ∧ ReadsF D f
def setF (f : Int → Option Value) (x : Int) (v : Value) : Int → Option Value := fun y => if y = x then some v else f y
def delF (f : Int → Option Value) (x : Int) : Int → Option Value := fun y => if y = x then none else f y
theorem lit_ne {x y : Int} (h : y ≠ x) : (Lit.int .i64 y) ≠ .int .i64 x := fun e => h (by injection e)
theorem ReadsF.put {D : DataW Value} {f : Int → Option Value} (h : ReadsF D f) (hm : IsMap D) (x : Int) (v : Value) : ReadsF (D.put (.int .i64 x) (.held v)) (setF f x v) := by
  intro y
  unfold setF
  by_cases e : y = x
  · subst e
    rw [if_pos rfl]
    exact ⟨fun zd => atKey_put_same hm (show Go.WideAt.IsKeyLit (.int .i64 y) from trivial) _ _, has_put_same hm (show Go.WideAt.IsKeyLit (.int .i64 y) from trivial) _⟩
  · rw [if_neg e]
    exact ⟨fun zd => by rw [atKey_put_other (lit_ne e)]; exact (h y).1 zd, by rw [has_put_other (lit_ne e)]; exact (h y).2⟩
theorem ReadsF.del {D : DataW Value} {f : Int → Option Value} (h : ReadsF D f) (x : Int) : ReadsF (D.del (.int .i64 x)) (delF f x) := by
  intro y
  unfold delF
  by_cases e : y = x
  · subst e
    rw [if_pos rfl]
    exact ⟨fun zd => atKey_del_same zd, has_del_same⟩
  · rw [if_neg e]
    exact ⟨fun zd => by rw [atKey_del_other (lit_ne e)]; exact (h y).1 zd, by rw [has_del_other (lit_ne e)]; exact (h y).2⟩
theorem mapV_made (P : Program) (k : TypeId) (w : World) : MapV P k (w.alloc (.map #[] 0)) w.heap.size 0 (fun _ => none) := ⟨_, World.ownsMap_made w P k heldElem, fun x => ⟨fun zd => rfl, rfl⟩⟩
theorem MapV.lt {P : Program} {k : TypeId} {w : World} {b n : Nat} {f : Int → Option Value} (h : MapV P k w b n f) : b < w.heap.size := by obtain ⟨D, h, _⟩ := h; exact h.lt
theorem MapV.kept {P : Program} {k : TypeId} {w w' : World} {b n : Nat} {f : Int → Option Value} {row : Option Nat} (h : MapV P k w b n f) (hg : w.grownBy w' row) (hne : some b ≠ row) : MapV P k w' b n f := by obtain ⟨D, h, r⟩ := h; exact ⟨D, h.kept hg hne, r⟩
theorem MapV.below {P : Program} {k : TypeId} {w w' : World} {b n : Nat} {f : Int → Option Value} (h : MapV P k w b n f) (hb : Below w.heap.size w w') : MapV P k w' b n f :=
  h.kept (row := none) ⟨hb.os, hb.tape, hb.output, hb.size, fun j hj _ => hb.block j hj⟩ (by simp)
theorem MapV.mono {P : Program} {k : TypeId} {w : World} {b n n' : Nat} {f : Int → Option Value} (h : MapV P k w b n f) (hn : n ≤ n') : MapV P k w b n' f := by obtain ⟨D, h, r⟩ := h; exact ⟨D, h.mono hn, r⟩

section
variable {P : Program} {w : World} {ops : Array Oper} {rest : List Oper} {o : Oper} {a : Act} {Q : Exit → Act → World → Prop}

theorem wpList_lookup_mapV (hg : o.guard = none) (m x : Operand) (t : TypeId) (hop : o.op = Op.lookup t m x false)
    (k e : TypeId) (hk : P.underlying k = some (.int .i64)) (ht : P.underlying t = some (.map k e)) {z : Value} (hz : (zeroValue e).run P w = .ok z w) (b n : Nat) (f : Int → Option Value)
    (hm : a.eval m = .map (some b)) (hown : MapV P k w b n f) (y : Int) (hx : a.eval x = .int .i64 y) (hw : (Lit.int .i64 y).wf = true)
    (hK : wpList P ops Q rest (a.put o.dst ((f y).getD z)) w) : wpList P ops Q (o :: rest) a w := by
  refine wpList_plain hg fun K' hK' => ?_
  obtain ⟨D, hD, hr⟩ := hown
  obtain ⟨v, ps, hrun, hv⟩ := hD.lookup (int_keyed hk) ht hz (zd := .held z) (zp := []) rfl (keyOf_int_mk hk hw)
  have hv2 : v = (f y).getD z := by
    have h1 : (DataW.held v : DataW Value) = D.atKey (.int .i64 y) (.held z) := by
      unfold heldElem at hv
      have := Option.some.inj hv
      exact congrArg Prod.fst this
    rw [(hr y).1] at h1
    cases hf : f y with
    | none => rw [hf] at h1; injection h1
    | some u => rw [hf] at h1; injection h1
  subst hv2
  unfold Oper.wp
  simp [execOp, hop, hm, hx, hrun, Result.andThen]
  exact hK' _ _ hK
theorem wpList_lookup_ok_mapV (hg : o.guard = none) (m x : Operand) (t : TypeId) (hop : o.op = Op.lookup t m x true)
    (k e : TypeId) (hk : P.underlying k = some (.int .i64)) (ht : P.underlying t = some (.map k e)) {z : Value} (hz : (zeroValue e).run P w = .ok z w) (b n : Nat) (f : Int → Option Value)
    (hm : a.eval m = .map (some b)) (hown : MapV P k w b n f) (y : Int) (hx : a.eval x = .int .i64 y) (hw : (Lit.int .i64 y).wf = true)
    (hK : wpList P ops Q rest (a.put o.dst (.tuple #[(f y).getD z, .bool (f y).isSome])) w) : wpList P ops Q (o :: rest) a w := by
  refine wpList_plain hg fun K' hK' => ?_
  obtain ⟨D, hD, hr⟩ := hown
  obtain ⟨v, ps, hrun, hv⟩ := hD.look_ok (int_keyed hk) ht hz (zd := .held z) (zp := []) rfl (keyOf_int_mk hk hw)
  have hv2 : v = (f y).getD z := by
    have h1 : (DataW.held v : DataW Value) = D.atKey (.int .i64 y) (.held z) := by
      unfold heldElem at hv
      have := Option.some.inj hv
      exact congrArg Prod.fst this
    rw [(hr y).1] at h1
    cases hf : f y with
    | none => rw [hf] at h1; injection h1
    | some u => rw [hf] at h1; injection h1
  subst hv2
  rw [(hr y).2] at hrun
  unfold Oper.wp
  simp [execOp, hop, hm, hx, hrun, Result.andThen]
  exact hK' _ _ hK
theorem wpList_update_mapV (hg : o.guard = none) (m x v : Operand) (t : TypeId) (hop : o.op = Op.mapUpdate t m x v)
    (k e : TypeId) (hk : P.underlying k = some (.int .i64)) (ht : P.underlying t = some (.map k e)) (b n : Nat) (f : Int → Option Value)
    (hm : a.eval m = .map (some b)) (hown : MapV P k w b n f) (hn : n < maxLen) (y : Int) (val : Value) (hx : a.eval x = .int .i64 y) (hv : a.eval v = val) (hw : (Lit.int .i64 y).wf = true)
    (hK : ∀ w', MapV P k w' b (n + 1) (setF f y val) → w.grownBy w' (some b) → wpList P ops Q rest (a.put o.dst undef) w') : wpList P ops Q (o :: rest) a w := by
  obtain ⟨D, hD, hr⟩ := hown
  exact wpList_mapUpdate_own w hg m x v t hop k e (int_keyed hk) ht heldElem b n D hm hD hn _ _ _ hx hv (keyOf_int_mk hk hw) (.held val) [] rfl (fun w' h1 h2 => hK w' ⟨_, h1, hr.put hD.isMap y val⟩ h2)
theorem wpList_delete_mapV (hg : o.guard = none) (m x : Operand) (t k : TypeId) (hop : o.op = Op.call { callee := Callee.builtin Builtin.delete, args := #[m, x], argTypes := #[t, k] })
    (e : TypeId) (hk : P.underlying k = some (.int .i64)) (ht : P.underlying t = some (.map k e)) (b n : Nat) (f : Int → Option Value)
    (hm : a.eval m = .map (some b)) (hown : MapV P k w b n f) (y : Int) (hx : a.eval x = .int .i64 y) (hw : (Lit.int .i64 y).wf = true)
    (hK : ∀ w', MapV P k w' b n (delF f y) → w.grownBy w' (some b) → wpList P ops Q rest (a.put o.dst (.tuple #[])) w') : wpList P ops Q (o :: rest) a w := by
  obtain ⟨D, hD, hr⟩ := hown
  exact wpList_delete_own w hg m x t k hop e (int_keyed hk) ht heldElem b n D hm hD _ _ hx (keyOf_int_mk hk hw) (fun w' h1 h2 => hK w' ⟨_, h1, hr.del y⟩ h2.grown)
end
end Go.Proofs.Ytobbhflajkhcdaa
