/- What a struct argument of an integer and a list reads as, in the words of the walks. -/
import Derived.Test.YtjjnnlfcdncefaaOpen
import Derived.Test.YtjjnnlfcdncefaaFrame
import Derived.Lib.SmallJoins
namespace Go.Proofs.Ytjjnnlfcdncefaa
open Go.RowKit Go.ChangeShapes Go.WideShapes Go.ChangeAt Go.Deep Go.Joins

section
variable {H : Type} {enc : TypeId × Value → H} {P : Program} {W : World}

theorem open_IntsC {t e : TypeId} (ht : P.underlying t = some (.slice e)) (he : P.underlying e = some (.int .i64)) (hc : P.cellsOf e = 1) {v : Value} {fuel : Nat} {y : DataW H × List MemPlace}
    (h : DataW.trod enc P W 0 (fun _ => true) true fuel t [v] = some y) : ∃ a len cap xs, v = .slice a len cap ∧ Ints W v xs := by
  have hv : ∃ a len cap, v = .slice a len cap := by
    rcases open_ints ht he hc h with ⟨hcs, _⟩ | ⟨x, l, c, zs, hcs, _⟩
    · simp at hcs; exact ⟨_, _, _, hcs⟩
    · simp at hcs; exact ⟨_, _, _, hcs⟩
  obtain ⟨a, len, cap, rfl⟩ := hv
  obtain ⟨xs, hx, _⟩ := open_Ints (enc := enc) ht he hc (a := a) (len := len) (cap := cap) (d := y.1) (p := y.2) ⟨fuel, h⟩
  exact ⟨a, len, cap, xs, rfl, hx⟩

theorem open_pair {t e : TypeId} {f0 f1 : Field} (hs : P.underlying t = some (.struct #[f0, f1])) (hone : oneCellFields P #[f0, f1] = true) (hC : P.cellsOf t = 2) (t0 : P.underlying f0.type = some (.int .i64)) (t1 : P.underlying f1.type = some (.slice e)) (he : P.underlying e = some (.int .i64)) (hc : P.cellsOf e = 1)
    {r : Reach} {b0 : Nat} {v : Value} {d : DataW H} {p : List MemPlace} (hv : Value.okWide P W r b0 t v) (h : DataW.Trod enc P W 0 (fun _ => true) true t v d p) : ∃ a : Int × List Int, Pair W v a.1 a.2 := by
  obtain ⟨c0, c1, y0, y1, m, rfl, rfl, rfl, hy0, hy1⟩ := open_agg2 hs hone hC hv h
  obtain ⟨n, e0, _, _⟩ := DataW.trod_int t0 hy0
  obtain ⟨a, len, cap, xs, rfl, hx⟩ := open_IntsC t1 he hc hy1
  simp at e0
  subst e0
  obtain ⟨_, a', c', b', o', he', _⟩ := hx.opened
  injection he' with h1 h2 h3
  subst h2
  exact ⟨(n, xs), a, cap, rfl, hx⟩
end

theorem open_frame_arg {H : Type} {enc : TypeId × Value → H} {W : World} {r : Reach} {b0 : Nat} {v : Value} {d : DataW H} {p : List MemPlace} (hv : Value.okWide Try.prog W r b0 24 v) (h : DataW.Trod enc Try.prog W 0 (fun _ => true) true 24 v d p) : ∃ a : Int × List Int, Pair W v a.1 a.2 :=
  open_pair (e := 2) Try.underlying24 (by kernel_rfl) (by kernel_rfl) Try.underlying2 Try.underlying22 Try.underlying2 (by kernel_rfl) hv h

theorem open_algebra_arg {H : Type} {enc : TypeId × Value → H} {W : World} {r : Reach} {b0 : Nat} {v : Value} {d : DataW H} {p : List MemPlace} (hv : Value.okWide Try.prog W r b0 32 v) (h : DataW.Trod enc Try.prog W 0 (fun _ => true) true 32 v d p) : ∃ a : Int × List Int, Pair W v a.1 a.2 :=
  open_pair (e := 2) Try.underlying32 (by kernel_rfl) (by kernel_rfl) Try.underlying2 Try.underlying22 Try.underlying2 (by kernel_rfl) hv h
end Go.Proofs.Ytjjnnlfcdncefaa
