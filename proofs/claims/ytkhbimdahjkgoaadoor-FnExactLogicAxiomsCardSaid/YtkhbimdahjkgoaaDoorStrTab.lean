/- A package-level table of strings: from what it reads as to its cells. -/
import Derived.Test.YtkhbimdahjkgoaaDoorStrs
import Derived.LaidLaws
import Derived.ChangeArms
import Derived.OpenShut
import Derived.LaidMore
import Derived.FnData
namespace Go.Proofs.YtkhbimdahjkgoaaDoor
open Go.RowKit Go.ChangeShapes Go.WideShapes

def strData {H : Type} (ls : List (List UInt8)) : DataW H := .agg (ls.map fun l => .lit (.string l))

/-- An array of strings that reads as the table holds the table's strings. -/
theorem cells_of_strs {H : Type} {enc : TypeId × Value → H} {P : Program} {w : World} {base : Nat} {sp : Nat → Bool} {held : Bool} {fuel : Nat} {t e : TypeId} {n : Nat} {cs : List Value} {ls : List (List UInt8)} {p : List MemPlace}
    (ht : P.underlying t = some (.array n e)) (he : P.underlying e = some .string) (hce : P.cellsOf e = 1)
    (h : DataW.trod enc P w base sp held fuel t cs = some (strData ls, p)) : ∀ (k : Nat) (l : List UInt8), ls[k]? = some l → cs[k]? = some (.string ⟨l.toArray⟩) := by
  intro k l hk
  obtain ⟨xs, m, _, hx, _, hn, hel⟩ := DataW.trod_array ht h
  have e1 : (ls.map fun l => (DataW.lit (.string l) : DataW H)) = xs.map Prod.fst := by
    have := congrArg Prod.fst hx
    simpa [strData] using this
  have hkl : k < ls.length := (List.getElem?_eq_some_iff.1 hk).1
  have hl : ls.length = n := by have := congrArg List.length e1; simp at this; omega
  have h2 := hel k (by omega)
  rw [hce, Nat.mul_one] at h2
  obtain ⟨x, hxk⟩ : ∃ x, xs[k]? = some x := ⟨_, List.getElem?_eq_getElem (by omega)⟩
  rw [hxk] at h2
  obtain ⟨s, hs, rfl, _⟩ := DataW.trod_string he h2
  have h3 := congrArg (·[k]?) e1
  simp only [List.getElem?_map, hk, hxk, Option.map_some, Option.some.injEq, DataW.lit.injEq, Lit.string.injEq] at h3
  have h4 := congrArg (·[0]?) hs
  simp only [List.getElem?_take, List.getElem?_drop, Nat.lt_one_iff, if_true, Nat.add_zero, List.getElem?_cons_zero] at h4
  rw [h4, h3]

/-- The head of the list of laid variables: its cells. -/
theorem strs_of_head {P : Program} {W : World} {name : String} {ls : List (List UInt8)} {rest : List (String × DataW Unit)} {g : Nat} {t e : TypeId} {n : Nat}
    (hg : P.globalNamed name = some g) (hty : (P.globals[g]?).map (·.type) = some t) (ht : P.underlying t = some (.array n e)) (he : P.underlying e = some .string) (hce : P.cellsOf e = 1)
    (h : laidMet P ((name, strData ls) :: rest) W) : ∀ (k : Nat) (l : List UInt8), ls[k]? = some l → W.cell? ⟨g, k, none⟩ = some (.string ⟨l.toArray⟩) := by
  obtain ⟨ps, ⟨g', t', cs, fuel, p, q, hg', ht', hvar, hd, _, _⟩, _⟩ := h
  obtain rfl := Option.some.inj (hg.symm.trans hg')
  obtain rfl := Option.some.inj (hty.symm.trans ht')
  intro k l hk
  have h1 := cells_of_strs ht he hce hd k l hk
  have h2 := World.var?_cell hg hvar k
  rw [h2]
  simpa using h1
end Go.Proofs.YtkhbimdahjkgoaaDoor
