/- What an argument that is a list of point nodes reads as, in the words of the walks. -/
import Derived.Test.YtfedipeabbaccaaDoorPts
import Derived.Deep.Slices
import Derived.ChangeSame
namespace Go.Proofs.YtfedipeabbaccaaDoor
open Go.RowKit Go.ChangeShapes Go.WideShapes Go.ChangeAt Go.Deep

section
variable {H : Type} {enc : TypeId × Value → H} {P : Program} {W : World}

theorem list_of {α : Type} {p : Nat → α → Prop} (n : Nat) (h : ∀ i, i < n → ∃ x, p i x) : ∃ xs : List α, xs.length = n ∧ ∀ (i : Nat) (x : α), xs[i]? = some x → p i x := by
  induction n with
  | zero => exact ⟨[], rfl, fun i x h => by simp at h⟩
  | succ n ih =>
    obtain ⟨xs, hl, hh⟩ := ih fun i hi => h i (by omega)
    obtain ⟨x, hx⟩ := h n (by omega)
    refine ⟨xs ++ [x], by simp [hl], fun i y hy => ?_⟩
    rcases Nat.lt_or_ge i xs.length with h1 | h1
    · rw [List.getElem?_append_left h1] at hy; exact hh i y hy
    · rw [List.getElem?_append_right h1] at hy
      have h0 : i - xs.length = 0 := by
        rcases Nat.eq_zero_or_pos (i - xs.length) with h0 | h0
        · exact h0
        · rw [List.getElem?_eq_none (by simp; omega)] at hy; cases hy
      rw [h0] at hy
      obtain rfl : x = y := by simpa using hy
      obtain rfl : i = n := by omega
      exact hx

theorem open_Points {t e e2 : TypeId} {f0 f1 f2 : Field} (ht : P.underlying t = some (.slice e)) (he : P.underlying e = some (.struct #[f0, f1, f2])) (hi : P.underlying e2 = some (.int .i64))
    (ce : P.cellsOf e = 3) (ci : P.cellsOf e2 = 1) (t0 : f0.type = e2) (t1 : f1.type = e2) (t2 : f2.type = e2) (o0 : f0.offset = 0) (o1 : f1.offset = 1) (o2 : f2.offset = 2) {a : Option Addr} {len cap : Nat} {d : DataW H} {p : List MemPlace}
    (h : DataW.Trod enc P W 0 (fun _ => true) true t (.slice a len cap) d p) : ∃ ns, Points W (.slice a len cap) ns := by
  obtain ⟨fuel, hf⟩ := h
  rcases open_slice ht hf with ⟨hcs, _⟩ | ⟨x, l, c, m, n, D, Pl, hcs, _, hl, hm, hmm, _, hcell⟩
  · simp [Value.cells] at hcs
    obtain ⟨rfl, rfl, rfl⟩ := hcs
    exact ⟨[], rfl, by simp, none, 0, 0, 0, rfl, Nat.le_refl _, by simp, by simp [cellsP]⟩
  · simp [Value.cells] at hcs
    obtain ⟨rfl, rfl, rfl⟩ := hcs
    simp only [if_true] at hmm
    subst hmm
    have each : ∀ i, i < len → ∃ q : Pt, W.cell? (x.add (i * 3)) = some (.int .i64 q.1) ∧ W.cell? (x.add (i * 3 + 1)) = some (.int .i64 q.2.1) ∧ W.cell? (x.add (i * 3 + 2)) = some (.int .i64 q.2.2) := by
      intro i hi'
      obtain ⟨cs', h1, h2⟩ := hcell i (by omega)
      rw [ce] at h1
      obtain ⟨_, hlen, hcl⟩ := World.cells?_some h1
      obtain ⟨xs, k, hk, hxy, _, hxl, hf'⟩ := DataW.trod_struct he h2
      match xs, hxl, cs', hlen with
      | [y0, y1, y2], _, [v0, v1, v2], _ =>
        have g0 := hf' 0 f0 rfl
        have g1 := hf' 1 f1 rfl
        have g2 := hf' 2 f2 rfl
        simp [o0, o1, o2, t0, t1, t2, ci] at g0 g1 g2
        have e0 := hcl 0 (by omega)
        have e1 := hcl 1 (by omega)
        have e2' := hcl 2 (by omega)
        rw [add_add] at e0 e1 e2'
        obtain ⟨z0, r0, _, _⟩ := DataW.trod_int hi g0
        obtain ⟨z1, r1, _, _⟩ := DataW.trod_int hi g1
        obtain ⟨z2, r2, _, _⟩ := DataW.trod_int hi g2
        simp at r0 r1 r2
        subst r0
        subst r1
        subst r2
        exact ⟨(z0, z1, z2), by simpa using e0, by simpa using e1, by simpa using e2'⟩
    obtain ⟨ns, hnl, hns⟩ := list_of len each
    refine ⟨ns, by rw [cellsP_length], by rw [hnl]; omega, ?_⟩
    obtain ⟨b, o, s⟩ := x
    rcases Nat.eq_zero_or_pos len with h0 | h0
    · subst h0
      obtain rfl : ns = [] := List.eq_nil_of_length_eq_zero hnl
      exact ⟨_, _, 0, 0, rfl, by simp, by simp, by simp [cellsP]⟩
    · obtain ⟨q0, hq0⟩ := each 0 h0
      have hs : s = none := by simpa [Addr.add] using World.cell?_spot hq0.1
      subst hs
      refine ⟨some ⟨b, o, none⟩, _, b, o, by rw [hnl], by rw [hnl]; exact hl, fun _ => rfl, fun i u hu => ?_⟩
      have hi' : i < len * 3 := by
        have := (List.getElem?_eq_some_iff.1 hu).1
        rw [cellsP_length, hnl] at this
        exact this
      have hk : ns[i / 3]? = some (ns[i / 3]'(by omega)) := List.getElem?_eq_getElem _
      have hg := cellsP_get _ _ _ hk
      have hc := hns _ _ hk
      rw [Addr.add_lit, Addr.add_lit, Addr.add_lit] at hc
      have h3 : i % 3 = 0 ∨ i % 3 = 1 ∨ i % 3 = 2 := by omega
      rcases h3 with h2 | h2 | h2
      · have e : i / 3 * 3 = i := by omega
        rw [e] at hg hc
        rw [hg.1] at hu
        rw [hc.1, ← hu]
      · have e : i / 3 * 3 + 1 = i := by omega
        rw [e] at hg hc
        rw [hg.2.1] at hu
        rw [hc.2.1, ← hu]
      · have e : i / 3 * 3 + 2 = i := by omega
        rw [e] at hg hc
        rw [hg.2.2] at hu
        rw [hc.2.2, ← hu]
end
set_option maxRecDepth 100000 in
theorem open_points_arg {H : Type} {enc : TypeId × Value → H} {W : World} {r : Reach} {b0 : Nat} {v : Value} {d : DataW H} {p : List MemPlace} (hv : Value.okWide Tryd.prog W r b0 22 v) (h : DataW.Trod enc Tryd.prog W 0 (fun _ => true) true 22 v d p) : ∃ ns, Points W v ns := by
  obtain ⟨a, len, cap, rfl⟩ := okWide_slice Tryd.underlying22 hv
  exact open_Points Tryd.underlying22 Tryd.underlying51 Tryd.underlying2 (by kernel_rfl) (by kernel_rfl) rfl rfl rfl rfl rfl rfl h
end Go.Proofs.YtfedipeabbaccaaDoor
