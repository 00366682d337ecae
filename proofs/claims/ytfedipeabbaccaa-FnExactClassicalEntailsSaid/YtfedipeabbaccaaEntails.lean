/- ClassicalEntails, of both. -/
import Derived.Test.YtfedipeabbaccaaClassTwo
import Derived.Test.YtfedipeabbaccaaTurn
import Derived.Test.YtfedipeabbaccaaIsSub
import Derived.Test.YtfedipeabbaccaaAppendNil
namespace Go.Proofs.Ytfedipeabbaccaa
open Go.RowKit Go.Deep

theorem rows_and_not (p q : Nat → Bool) : rowsOf p 64 &&& (18446744073709551615 - rowsOf q 64) = rowsOf (fun i => p i && !q i) 64 := by
  rw [rows_not, rows_and]

/-- The premises' models, and whether they are models of the formula too. -/
def premP (Is : List (List Nd)) (i : Nat) : Bool := Is.all fun I => valT (treeOf I) i
def entB (Is : List (List Nd)) (ns : List Nd) : Bool := (List.range 64).all fun i => !(premP Is i && !valT (treeOf ns) i)
theorem premP_succ {Is : List (List Nd)} {k : Nat} {I : List Nd} (h : Is[k]? = some I) : (fun i => premP (Is.take k) i && valT (treeOf I) i) = premP (Is.take (k + 1)) := by
  funext i
  unfold premP
  rw [List.take_add_one, h]; simp
def premR (Is : List (List Nd)) : Int := (rowsOf (premP Is) 64 : Nat)
theorem premR_bounds (Is : List (List Nd)) : 0 ≤ premR Is ∧ premR Is < 18446744073709551616 := by
  have := rows64_lt (premP Is)
  unfold premR; omega
theorem premR_nil (Is : List (List Nd)) : premR (Is.take 0) = 18446744073709551615 := by
  show ((rowsOf (fun _ => true) 64 : Nat) : Int) = _
  rw [rows_every]; rfl
theorem premR_succ {Is : List (List Nd)} {k : Nat} {I : List Nd} (h : Is[k]? = some I) : bits BinOp.and IntKind.u64 (premR (Is.take k)) (rowsT (treeOf I)) = premR (Is.take (k + 1)) := by
  unfold premR rowsT
  rw [u64_and_nat _ _ (rows64_lt _) (rows64_lt _), rows_and, premP_succ h]
theorem premR_ent (Is : List (List Nd)) (ns : List Nd) : (bits BinOp.andNot IntKind.u64 (premR Is) (rowsT (treeOf ns)) == 0) = entB Is ns := by
  unfold premR rowsT entB
  rw [u64_andNot_nat _ _ (rows64_lt _) (rows64_lt _), rows_and_not, Bool.eq_iff_iff, beq_iff_eq, ← rows_empty]
  omega
theorem ent_bad {Is : List (List Nd)} {ns : List Nd} {r : Nat} (hr : r < 64) (h : (premP Is r && !valT (treeOf ns) r) = true) : entB Is ns = false := by
  unfold entB
  rw [List.all_eq_false]
  exact ⟨r, by simpa using hr, by rw [h]; simp⟩
theorem ent_good {Is : List (List Nd)} {ns : List Nd} (h : ∀ r, r < 64 → (premP Is r && !valT (treeOf ns) r) = false) : entB Is ns = true := by
  unfold entB
  rw [List.all_eq_true]
  intro r hr
  rw [h r (by simpa using hr)]; rfl

/-- A list of formulas of which all are plain. -/
theorem plain_all {L : List (List Nd)} (h : codeP L = 0) : ∀ I ∈ L, okT (treeOf I) ∧ flat (treeOf I) = I ∧ plainT (treeOf I) ∧ I.length ≤ 40 := by
  intro I hI
  have hf : L.all formB = true ∧ L.all plainB = true := by
    unfold codeP at h
    cases h1 : L.all formB <;> cases h2 : L.all plainB <;> simp [h1, h2] at h ⊢
  exact plain_tree (List.all_eq_true.1 hf.1 I hI) (List.all_eq_true.1 hf.2 I hI)

section
variable {P : Program} {w : World}
/-- One slice more behind a list of slices that is somebody else's and has no room. -/
theorem wpList_append_foreign {ops : Array Oper} {rest : List Oper} {o : Oper} {a : Act} {Q : Exit → Act → World → Prop} (hgd : o.guard = none) (s x : Operand) (t : TypeId)
    (ho : o.op = .call { callee := .builtin .append, args := #[s, x], argTypes := #[t, t] })
    (e : TypeId) (i : TypeInfo) (z : Value) (ht : P.underlying t = some (.slice e)) (hi : P.info? e = some i) (hz : i.zero = some z) (hsize : i.size = 1) (hby : i.bytes = 24)
    (b : Option Addr) (ss : List Sl) (y : Sl) (hs : a.eval s = .slice b ss.length ss.length) (hown : Slices w (.slice b ss.length ss.length) ss) (hm : ss.length ≤ 1048576)
    (ad : Addr) (c : Nat) (hx : a.eval x = .slice (some ad) 1 c) (hnew : w.cell? ad = some (slV y))
    (h : ∀ v' w', Slices w' v' (ss ++ [y]) → Below w.heap.size w w' → wpList P ops Q rest (a.put o.dst v') w') : wpList P ops Q (o :: rest) a w := by
  have hnews : ∀ j v, [slV y][j]? = some v → w.cell? (ad.add j) = some v := by
    intro j v hv
    cases j with
    | zero =>
      obtain rfl : slV y = v := by simpa using hv
      have e0 : ad.add 0 = ad := by simp [Addr.add]
      rw [e0]; exact hnew
    | succ j => simp at hv
  refine wpList_plain hgd fun _ hK => ?_
  obtain ⟨v', w', hr, hS, hB⟩ : ∃ v' w', (Builtin.append_ #[t, t] o.type #[.slice b ss.length ss.length, .slice (some ad) 1 c]).run P w = .ok v' w' ∧ Slices w' v' (ss ++ [y]) ∧ Below w.heap.size w w' := by
    have hfin : ∀ (cap : Nat) (cs : Array Value), (∀ (j : Nat) (u : Value), ((ss ++ [y]).map slV)[j]? = some u → cs[j]? = some u) → ss.length + 1 ≤ cap → Slices (w.drew.alloc (.cells cs e)) (.slice (some ⟨w.heap.size, 0, none⟩) (ss.length + 1) cap) (ss ++ [y]) ∧ Below w.heap.size w (w.drew.alloc (.cells cs e)) := by
      intro cap cs hcs hcap
      refine ⟨⟨by simp, by rw [List.length_append]; simp only [List.length_singleton]; unfold maxLen; omega, some ⟨w.heap.size, 0, none⟩, cap, w.heap.size, 0, by simp, by simp; omega, fun _ => rfl, fun j u hu => ?_⟩, (Below.drew (Below.refl _ _)).alloc (Nat.le_refl _) _⟩
      show (w.drew.alloc (.cells cs e)).cell? ⟨w.drew.heap.size, 0 + j, none⟩ = some u
      rw [World.cell?_alloc_at _ _ _ _ rfl, Nat.zero_add]
      exact hcs j u hu
    obtain ⟨_, _, a1, c1, bb, oo, hv, hc, ha, hcell⟩ := hown
    obtain ⟨rfl, _, rfl⟩ : b = a1 ∧ True ∧ ss.length = c1 := by simpa using hv
    rcases Nat.eq_zero_or_pos ss.length with h0 | h0
    · obtain rfl : ss = [] := List.eq_nil_of_length_eq_zero h0
      cases b with
      | none =>
        have hg := run_append_nil (P := P) (w := w) t o.type e i z ht hi hz ad 1 c [slV y] (by rw [hsize]; rfl) hnews (by omega) (by omega) (by rw [hby]; omega)
        refine ⟨_, _, hg, ?_⟩
        refine hfin _ _ (fun j u hu => ?_) (grownCap_ge w 1 0 e)
        have hj : j = 0 := by
          have := (List.getElem?_eq_some_iff.1 hu).1
          simp at this; omega
        subst hj
        rw [Array.getElem?_append_left (by simp)]
        simpa using hu
      | some bb' =>
        have hg := run_append_grow (P := P) (w := w) t o.type e i z ht hi hz bb' 0 0 [] (by simp) (by simp) ad 1 c [slV y] (by rw [hsize]; rfl) hnews (by omega) (by omega) (growslice_fits (by omega) (by rw [hby]; omega))
        refine ⟨_, _, hg, ?_⟩
        refine hfin _ _ (fun j u hu => ?_) (grownCap_ge w _ _ e)
        have hj : j = 0 := by
          have := (List.getElem?_eq_some_iff.1 hu).1
          simp at this; omega
        subst hj
        rw [Array.getElem?_append_left (by simp)]
        simpa using hu
    · obtain rfl := ha h0
      have holds : ∀ j v, (ss.map slV)[j]? = some v → w.cell? ((⟨bb, oo, none⟩ : Addr).add j) = some v := fun j v hv => by
        rw [Addr.add_lit]; exact hcell j v hv
      have hg := run_append_grow (P := P) (w := w) t o.type e i z ht hi hz ⟨bb, oo, none⟩ ss.length ss.length (ss.map slV) (by rw [hsize]; simp) holds ad 1 c [slV y] (by rw [hsize]; rfl) hnews (by omega) (by omega) (growslice_fits (by omega) (by rw [hby]; omega))
      refine ⟨_, _, hg, ?_⟩
      refine hfin _ _ (fun j u hu => ?_) (grownCap_ge w _ _ e)
      have hj := (List.getElem?_eq_some_iff.1 hu).1
      have e1 : ((ss.map slV).toArray ++ [slV y].toArray) = ((ss ++ [y]).map slV).toArray := by simp
      rw [e1, Array.getElem?_append_left (by simpa using hj)]
      simpa using hu
  unfold Oper.wp execOp
  simp only [ho, resolve, invoke, builtin, Sem.run_bind, Sem.run_pure, Result.andThen_ok, List.map_toArray, List.map_cons, List.map_nil, hs, hx, hr]
  exact hK _ _ (h v' w' hS hB)
end
end Go.Proofs.Ytfedipeabbaccaa
