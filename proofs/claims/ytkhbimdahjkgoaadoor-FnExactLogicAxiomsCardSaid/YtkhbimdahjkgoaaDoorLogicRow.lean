/- The laws on the logics' table: what is laid, and what the world's shape says. -/
import Derived.Test.YtkhbimdahjkgoaaDoorRows
import Derived.Test.YtkhbimdahjkgoaaDoorLogic
import Derived.HandedShaped
import Derived.Shelf.Vars
import Derived.LaidLaws
import Derived.ProofKit
import Derived.ChangeVars
import Derived.LaidMore
import Derived.OpenShut
namespace Go.Proofs.YtkhbimdahjkgoaaDoor
open Go.RowKit Go.ChangeShapes Go.WideShapes

/-- The second of the list of laid variables: its cells. -/
theorem strs_of_second {P : Program} {W : World} {name : String} {ls : List (List UInt8)} {first : String × DataW Unit} {rest : List (String × DataW Unit)} {g : Nat} {t e : TypeId} {n : Nat}
    (hg : P.globalNamed name = some g) (hty : (P.globals[g]?).map (·.type) = some t) (ht : P.underlying t = some (.array n e)) (he : P.underlying e = some .string) (hce : P.cellsOf e = 1)
    (h : laidMet P (first :: (name, strData ls) :: rest) W) : ∀ (k : Nat) (l : List UInt8), ls[k]? = some l → W.cell? ⟨g, k, none⟩ = some (.string ⟨l.toArray⟩) := by
  obtain ⟨ps, ⟨_, _, _, _, _, _, _, _, _, _, hlast⟩, _⟩ := h
  have hrest : ∃ ps, DataW.LaidVars P W ((name, strData ls) :: rest) ps := by
    first | exact ⟨_, hlast.2⟩ | exact ⟨_, hlast.1⟩
  obtain ⟨_, g', t', cs, fuel, p, q, hg', ht', hvar, hd, _, _⟩ := hrest
  obtain rfl := Option.some.inj (hg.symm.trans hg')
  obtain rfl := Option.some.inj (hty.symm.trans ht')
  intro k l hk
  have h1 := cells_of_strs ht he hce hd k l hk
  have h2 := World.var?_cell hg hvar k
  rw [h2]
  simpa using h1

theorem lg_laid {W : World} (h : laidMetH Tryd.prog [("unicode/utf8.acceptRanges", Rows.laid_unicode_utf8_acceptRanges), ("loop.example/g01089/impl.logicTable", Rows.laid_loop_example_g01089_impl_logicTable), ("unicode/utf8.first", Rows.laid_unicode_utf8_first)] W) (hsh : W.ShapedOpen Tryd.prog) : LgTab W ∧ MaxL W := by
  refine ⟨?_, cell_of_shapedOpen_int (P := Tryd.prog) (g := 1) (t := 3) (zero := #[.int .i64 0]) hsh (of_decide_eq_true (by kernel_rfl)) (by kernel_rfl) rfl (by kernel_rfl) (by kernel_rfl) Tryd.underlying3⟩
  rw [MakeChecks.laidMetH_plain _ _ _ (by kernel_rfl)] at h
  exact strs_of_second (ls := lgT) (by kernel_rfl) (by kernel_rfl) Tryd.underlying40 Tryd.underlying9 (by kernel_rfl) h
theorem laid_FnExactLogicName {W : World} (h : laidMetH Tryd.prog [("unicode/utf8.acceptRanges", Rows.laid_unicode_utf8_acceptRanges), ("loop.example/g01089/impl.logicTable", Rows.laid_loop_example_g01089_impl_logicTable), ("unicode/utf8.first", Rows.laid_unicode_utf8_first)] W) (hsh : W.ShapedOpen Tryd.prog) : LgTab W ∧ MaxL W := lg_laid h hsh
theorem laid_FnExactLogicAxioms {W : World} (h : laidMetH Tryd.prog [("unicode/utf8.acceptRanges", Rows.laid_unicode_utf8_acceptRanges), ("loop.example/g01089/impl.logicTable", Rows.laid_loop_example_g01089_impl_logicTable), ("unicode/utf8.first", Rows.laid_unicode_utf8_first)] W) (hsh : W.ShapedOpen Tryd.prog) : LgTab W ∧ MaxL W := lg_laid h hsh

/-- The plain wrap with what the row lists, the world's shape kept. -/
theorem handed_shaped {H : Type} {enc : TypeId × Value → H} {a : Assume} {C : Checked} {os : Os} {f : FuncId} {fn : Func} {s : ChangeSpec} {conds : List PathCond} {apart fresh handsOn again : Bool} {X : World → Array Value → Prop}
    (hX : ∀ (w w' : World) (args : Array Value), w.heap = w'.heap → X w args → X w' args)
    (own : ownKnob C.prog.godebug = none) (started : os.Started) (noInit : C.prog.inits.idxOf? f = none) (hfn : C.prog.funcs[f]? = some fn)
    (witness : ∃ (w : World) (tape : Tape) (i : Input), w.os = os ∧ (w.forCall tape i).Shaped C.prog ∧ i.vars = [] ∧ Input.okWide C.prog (w.forCall tape i) .any w.heap.size f i ∧
      ((s.pre enc C.prog fn conds apart (w.forCall tape i).memory i.args ∧ X (w.forCall tape i).memory i.args) ∧ sizedMet enc C.prog fn (OpenSpec.ofChange s) apart (w.forCall tape i).memory i.args) ∧ a.holds C.prog (lone (Frame.enter C.prog f i.args .normal) [] (w.forCall tape i)))
    (contract : ∀ (W : World) (base : Nat) (args : Array Value) (ds gs : List (DataW H)) (before : List MemPlace),
      (∀ (j : Nat) t v, fn.params[j]? = some t → args[j]? = some v → Value.okWide C.prog W .any base t v) →
      DataW.Whole enc C.prog fn.params.toList s.vars apart W args.toList ds gs before →
      X W args → W.ShapedOpen C.prog →
      Calls C.prog f args W fun e W' => ∃ v, e = .returned v ∧ s.post enc C.prog fn apart fresh handsOn again W args v W') :
    ReturnsInHanded a C os f .any (fun w args => (s.pre enc C.prog fn conds apart w args ∧ X w args) ∧ sizedMet enc C.prog fn (OpenSpec.ofChange s) apart w args) (s.post enc C.prog fn apart fresh handsOn again) := by
  refine returnsInHanded_of_calls own started noInit witness ?_
  intro w tape i _ hsh _ hok hpre _
  obtain ⟨_, _, _, fn', hfn', _, _, _, _, hval⟩ := hok
  obtain rfl : fn' = fn := Option.some.inj (hfn'.symm.trans hfn)
  obtain ⟨⟨⟨ds, gs, before, hw, _⟩, hx⟩, _⟩ := hpre
  refine (contract (w.forCall tape i) w.heap.size i.args ds gs before hval (DataW.Whole.of_heap (w' := w.forCall tape i) (by rfl) hw) (hX _ _ _ (by rfl) hx) hsh).mono fun e W' h => ?_
  obtain ⟨v, he, hp⟩ := h
  subst he
  exact ChangeSpec.post_blind hp
end Go.Proofs.YtkhbimdahjkgoaaDoor
