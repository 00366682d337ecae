/- What the loops of spec.l04Grown keep: the steps, the clauses known. -/
import Derived.Test.YtobbhflajkhcdaaStp
import Derived.Test.YtobbhflajkhcdaaClo
import Derived.Test.YtobbhflajkhcdaaIntGrow
namespace Go.Proofs.Ytobbhflajkhcdaa
open Go.RowKit
set_option linter.unusedVariables false

def knownB (L : List (List Int)) (q : Nat) : Bool := L.any fun c => decide (code3 c 6 = q)
def knownL (L : List (List Int)) : List Bool := (List.range 729).map (knownB L)
theorem knownL_len (L : List (List Int)) : (knownL L).length = 729 := by simp [knownL]
theorem knownL_get (L : List (List Int)) {q : Nat} (h : q < 729) : (knownL L)[q]? = some (knownB L q) := by simp [knownL, h]
theorem knownB_clause {L : List (List Int)} (hL : ∀ c ∈ L, clauseB c = true) {r : List Int} (hr : clauseB r = true) : knownB L (code3 r 6) = decide (r ∈ L) := by
  unfold knownB
  rw [Bool.eq_iff_iff, List.any_eq_true, decide_eq_true_eq]
  constructor
  · rintro ⟨c, hc, he⟩
    rw [decide_eq_true_eq] at he
    exact code3_inj (hL c hc) hr he ▸ hc
  · exact fun h => ⟨r, h, by simp⟩
theorem knownL_add (L : List (List Int)) (r : List Int) (h : code3 r 6 < 729) : (knownL L).set (code3 r 6) true = knownL (L ++ [r]) := by
  apply List.ext_getElem?
  intro q
  by_cases hq : q < 729
  · rw [knownL_get _ hq]
    by_cases e : code3 r 6 = q
    · subst e
      rw [List.getElem?_set_self (by rw [knownL_len]; exact h)]
      simp [knownB]
    · rw [List.getElem?_set_ne e, knownL_get _ hq]
      simp [knownB, e]
  · rw [List.getElem?_eq_none (by rw [List.length_set, knownL_len]; omega), List.getElem?_eq_none (by rw [knownL_len]; omega)]
theorem knownL_nil : knownL [] = List.replicate 729 false := by
  apply List.ext_getElem?
  intro q
  by_cases hq : q < 729
  · rw [knownL_get _ hq, List.getElem?_replicate, if_pos hq]
    simp [knownB]
  · rw [List.getElem?_eq_none (by rw [knownL_len]; omega), List.getElem?_eq_none (by rw [List.length_replicate]; omega)]
theorem cellsSt_append (a b : List StV) : cellsSt (a ++ b) = cellsSt a ++ cellsSt b := by simp [cellsSt]

/-- The steps so far hold the clauses L. -/
structure GrowS (K gk : Nat) (w : World) (vs : Value) (ss : List StV) (L : List (List Int)) : Prop where
  own : w.ownsRow K 34 4 vs ss.length (cellsSt ss)
  kn : w.ownsRow K 4 1 (.slice (some ⟨gk, 0, none⟩) 729 729) 729 ((knownL L).map Value.bool)
  len : ss.length = L.length
  cl : ∀ (i : Nat) (s : StV) (c : List Int), ss[i]? = some s → L[i]? = some c → Ints w s.1 c
  ap : ∀ s ∈ ss, ∀ k, s.1.ownBlock = some k → K ≤ k ∧ k < w.heap.size ∧ vs.ownBlock ≠ some k ∧ gk ≠ k
  kv : vs.ownBlock ≠ some gk
  ks : K ≤ w.heap.size
theorem GrowS.below {K gk : Nat} {w w' : World} {vs : Value} {ss : List StV} {L : List (List Int)} (h : GrowS K gk w vs ss L) (hb : Below w.heap.size w w') : GrowS K gk w' vs ss L :=
  ⟨own_below h.own hb (Nat.le_refl _), own_below h.kn hb (Nat.le_refl _), h.len, fun i s c h1 h2 => (h.cl i s c h1 h2).below hb (Nat.le_refl _), fun s hs k hk => ⟨(h.ap s hs k hk).1, Nat.lt_of_lt_of_le (h.ap s hs k hk).2.1 hb.size, (h.ap s hs k hk).2.2⟩, h.kv, Nat.le_trans h.ks hb.size⟩
/-- A clause that is not known is put at the end. -/
theorem GrowS.add {K gk : Nat} {w w5 w7 : World} {vs vs7 : Value} {ss : List StV} {L : List (List Int)} {s : StV} {r : List Int} (h : GrowS K gk w vs ss L) (hr : Ints w s.1 r) (hlt : code3 r 6 < 729) (hsv : ∀ k, s.1.ownBlock = some k → K ≤ k ∧ k < w.heap.size ∧ vs.ownBlock ≠ some k ∧ gk ≠ k)
    (hb5 : Below (w.setCell ⟨gk, code3 r 6, none⟩ (.bool true)).heap.size (w.setCell ⟨gk, code3 r 6, none⟩ (.bool true)) w5)
    (ho7 : w7.ownsRow K 34 4 vs7 (ss.length + 1) (cellsSt ss ++ encSt s)) (hg7 : w5.grownBy w7 vs.ownBlock) (hk7 : vs7.ownBlock = vs.ownBlock ∨ vs7.ownBlock = some w5.heap.size) : GrowS K gk w7 vs7 (ss ++ [s]) (L ++ [r]) := by
  have hgm := grown_setI w gk (code3 r 6) (.bool true)
  have hsz : (w.setCell ⟨gk, code3 r 6, none⟩ (.bool true)).heap.size = w.heap.size := by simp
  have hs5 := hb5.size
  rw [hsz] at hs5
  have hs7 := hg7.size
  have hgk := (h.kn.lt gk rfl).2
  have keep : ∀ (u : Value) (c : List Int), Ints w u c → (∀ k, u.ownBlock = some k → vs.ownBlock ≠ some k ∧ gk ≠ k) → Ints w7 u c := fun u c hi hu =>
    ints_grown ((ints_grown hi hgm (fun k hk hk2 => (hu k hk2).2 (by simpa using hk))).below hb5 (Nat.le_refl _)) hg7 (fun k hk hk2 => (hu k hk2).1 hk)
  have hkn1 := (h.kn.stored (code3 r 6) (.bool true)).1
  rw [← List.map_set, knownL_add L r hlt] at hkn1
  have hlenL : ss.length = L.length := h.len
  refine ⟨by rw [List.length_append, cellsSt_append]; simpa [cellsSt] using ho7, ?_, by simp [hlenL], fun i t c h1 h2 => ?_, fun t ht k hk => ?_, ?_, ?_⟩
  · exact (own_below hkn1 hb5 (Nat.le_refl _)).kept hg7 (.inr (fun e => h.kv e.symm))
  · rcases Nat.lt_or_ge i ss.length with hi | hi
    · rw [List.getElem?_append_left hi] at h1
      rw [List.getElem?_append_left (by omega)] at h2
      exact keep _ _ (h.cl i t c h1 h2) (fun k hk => (h.ap t (List.mem_of_getElem? h1) k hk).2.2)
    · rw [List.getElem?_append_right hi] at h1
      rw [List.getElem?_append_right (by omega), ← hlenL] at h2
      have hi2 : i - ss.length = 0 := by
        rcases Nat.eq_zero_or_pos (i - ss.length) with h | h
        · exact h
        · rw [List.getElem?_eq_none (by simp; omega)] at h1; cases h1
      rw [hi2] at h1 h2
      obtain rfl : s = t := by simpa using h1
      obtain rfl : r = c := by simpa using h2
      exact keep _ _ hr (fun k hk => (hsv k hk).2.2)
  · have h3 : K ≤ k ∧ k < w.heap.size ∧ vs.ownBlock ≠ some k ∧ gk ≠ k := by
      rcases List.mem_append.1 ht with ht | ht
      · exact h.ap t ht k hk
      · obtain rfl : t = s := by simpa using ht
        exact hsv k hk
    refine ⟨h3.1, by omega, ?_, h3.2.2.2⟩
    rcases hk7 with e | e
    · rw [e]; exact h3.2.2.1
    · rw [e]
      intro e2
      have := Option.some.inj e2
      omega
  · rcases hk7 with e | e
    · rw [e]; exact h.kv
    · rw [e]
      intro e2
      have := Option.some.inj e2
      omega
  · have := h.ks
    omega

theorem add_block {gk q : Nat} {i : Nat} {x : Value} {w w5 w7 : World} {row : Option Nat} (hb5 : Below (w.setCell ⟨gk, i, none⟩ x).heap.size (w.setCell ⟨gk, i, none⟩ x) w5) (hg7 : w5.grownBy w7 row) (h1 : gk ≠ q) (h2 : row ≠ some q) (hq : q < w.heap.size) : w7.heap[q]? = w.heap[q]? := by
  have hgm := grown_setI w gk i x
  have hsz : (w.setCell ⟨gk, i, none⟩ x).heap.size = w.heap.size := by simp
  have hs5 := hb5.size
  rw [hg7.block q (by omega) (fun e => h2 e.symm), hb5.block q (by omega), hgm.block q hq (fun e => h1 (by simpa using e.symm))]
/-- Where the first loop stands: the sorted clauses below k have been laid down as steps. -/
structure StartSt (K gk lo sb so : Nat) (w wr : World) (vs : Value) (ss : List StV) (st : List SlI) (k : Nat) : Prop where
  g : GrowS K gk wr vs ss ((st.map Prod.snd).take k)
  n : vs.ownBlock ≠ some sb ∧ ∀ s ∈ st, ∀ q, (slVI s).ownBlock = some q → vs.ownBlock ≠ some q
  z : (gk ≠ sb ∧ sb < wr.heap.size) ∧ ∀ s ∈ st, ∀ q, (slVI s).ownBlock = some q → K ≤ q ∧ gk ≠ q ∧ q < wr.heap.size
  r : ∀ (i : Nat) (s : SlI), st[i]? = some s → wr.cell? ⟨sb, so + i, none⟩ = some (slVI s) ∧ Ints wr (slVI s) s.2
  b : Below K w wr
theorem StartSt.add {K gk lo sb so : Nat} {w wr w5 w7 : World} {vs vs7 : Value} {ss : List StV} {st : List SlI} {k : Nat} {s : SlI} {x y z : Int} (h : StartSt K gk lo sb so w wr vs ss st k) (hs : st[k]? = some s) (hlt : code3 s.2 6 < 729) (hgK : K ≤ gk)
    (hb5 : Below (wr.setCell ⟨gk, code3 s.2 6, none⟩ (.bool true)).heap.size (wr.setCell ⟨gk, code3 s.2 6, none⟩ (.bool true)) w5)
    (ho7 : w7.ownsRow K 34 4 vs7 (ss.length + 1) (cellsSt ss ++ encSt (slVI s, x, y, z))) (hg7 : w5.grownBy w7 vs.ownBlock) (hk7 : vs7.ownBlock = vs.ownBlock ∨ vs7.ownBlock = some w5.heap.size) : StartSt K gk lo sb so w w7 vs7 (ss ++ [(slVI s, x, y, z)]) st (k + 1) := by
  have hm := List.mem_of_getElem? hs
  have hsz : (wr.setCell ⟨gk, code3 s.2 6, none⟩ (.bool true)).heap.size = wr.heap.size := by simp
  have hs5 := hb5.size
  rw [hsz] at hs5
  have hs7 := hg7.size
  have hz := h.z
  have hn := h.n
  have hnew : ∀ q, vs.ownBlock ≠ some q → q < wr.heap.size → vs7.ownBlock ≠ some q := fun q h1 h2 => by
    rcases hk7 with e | e
    · rw [e]; exact h1
    · rw [e]
      intro e2
      have := Option.some.inj e2
      omega
  have hg := h.g.add (r := s.2) (s := (slVI s, x, y, z)) (h.r k s hs).2 hlt (fun q hq => ⟨(hz.2 s hm q hq).1, (hz.2 s hm q hq).2.2, hn.2 s hm q hq, (hz.2 s hm q hq).2.1⟩) hb5 ho7 hg7 hk7
  have e1 : (st.map Prod.snd).take (k + 1) = (st.map Prod.snd).take k ++ [s.2] := by rw [List.take_add_one, List.getElem?_map, hs]; rfl
  rw [← e1] at hg
  refine ⟨hg, ⟨hnew sb hn.1 hz.1.2, fun t ht q hq => hnew q (hn.2 t ht q hq) (hz.2 t ht q hq).2.2⟩, ⟨⟨hz.1.1, by omega⟩, fun t ht q hq => ⟨(hz.2 t ht q hq).1, (hz.2 t ht q hq).2.1, by have := (hz.2 t ht q hq).2.2; omega⟩⟩, fun i t ht => ?_, ?_⟩
  · obtain ⟨h1, h2⟩ := h.r i t ht
    have htm := List.mem_of_getElem? ht
    refine ⟨(World.cell?_of_block (add_block hb5 hg7 hz.1.1 hn.1 hz.1.2)).trans h1, ?_⟩
    exact ints_grown ((ints_grown h2 (grown_setI wr gk (code3 s.2 6) (.bool true)) (fun q hq hq2 => (hz.2 t htm q hq2).2.1 (by simpa using hq))).below hb5 (Nat.le_refl _)) hg7 (fun q hq hq2 => hn.2 t htm q hq2 hq)
  · have h1 : Below K w (wr.setCell ⟨gk, code3 s.2 6, none⟩ (.bool true)) := h.b.setCell hgK _
    exact (h1.trans (hb5.mono (by have := h.g.ks; simp; omega))).grown hg7 (by have := h.g.ks; omega) (fun q hq => (h.g.own.lt q hq).1)
theorem cell_four_new (w : World) (x y z u : Value) (t : TypeId) : ∀ j q, [x, y, z, u][j]? = some q → (w.alloc (.cells #[x, y, z, u] t)).cell? ((⟨w.heap.size, 0, none⟩ : Addr).add j) = some q := by
  intro j q hj
  rw [Addr.add_lit]
  match j, hj with
  | 0, hj => simp at hj; subst hj; simp
  | 1, hj => simp at hj; subst hj; simp
  | 2, hj => simp at hj; subst hj; simp
  | 3, hj => simp at hj; subst hj; simp
  | (n + 4), hj => simp at hj

/-- Where the loops over pairs stand. -/
structure GrSt (K gk : Nat) (Is : List (List Int)) (w wr : World) (vs : Value) (ss : List StV) (L : List (List Int)) (j i : Nat) : Prop where
  g : GrowS K gk wr vs ss L
  c : CloSt Is L j i
  b : Below K w wr
theorem GrSt.below {K gk : Nat} {Is : List (List Int)} {w wr W : World} {vs : Value} {ss : List StV} {L : List (List Int)} {j i : Nat} (h : GrSt K gk Is w wr vs ss L j i) (hW : Below wr.heap.size wr W) : GrSt K gk Is w W vs ss L j i :=
  ⟨h.g.below hW, h.c, h.b.trans (hW.mono h.g.ks)⟩
theorem GrSt.add {K gk lo : Nat} {Is : List (List Int)} {w wr W w5 w7 : World} {vs vs7 u : Value} {ss : List StV} {L : List (List Int)} {j i : Nat} {r : List Int} {x y z : Int} (h : GrSt K gk Is w wr vs ss L j i) (hW : Below wr.heap.size wr W)
    (hr : W.ownsRow lo 2 1 u r.length (r.map (Value.int .i64))) (hlo : wr.heap.size ≤ lo) (hlt : code3 r 6 < 729) (hgK : K ≤ gk) (hnot : r ∉ L) (hclo : Clo Is r) (hj : j < L.length)
    (hb5 : Below (W.setCell ⟨gk, code3 r 6, none⟩ (.bool true)).heap.size (W.setCell ⟨gk, code3 r 6, none⟩ (.bool true)) w5)
    (ho7 : w7.ownsRow K 34 4 vs7 (ss.length + 1) (cellsSt ss ++ encSt (u, x, y, z))) (hg7 : w5.grownBy w7 vs.ownBlock) (hk7 : vs7.ownBlock = vs.ownBlock ∨ vs7.ownBlock = some w5.heap.size) : GrSt K gk Is w w7 vs7 (ss ++ [(u, x, y, z)]) (L ++ [r]) j i := by
  have hsz : (W.setCell ⟨gk, code3 r 6, none⟩ (.bool true)).heap.size = W.heap.size := by simp
  have hs5 := hb5.size
  have hsW := hW.size
  rw [hsz] at hs5
  have hks := h.g.ks
  have hgk := (h.g.kn.lt gk rfl).2
  refine ⟨(h.g.below hW).add (ints_of_own hr) hlt (fun k hk => ?_) hb5 ho7 hg7 hk7, h.c.add hj hnot hclo, ?_⟩
  · have h1 := hr.lt k hk
    refine ⟨by omega, h1.2, fun e => ?_, by omega⟩
    have h2 := own_lt h.g.own k e
    omega
  · have h0 : Below K w W := h.b.trans (hW.mono hks)
    have h1 : Below K w (W.setCell ⟨gk, code3 r 6, none⟩ (.bool true)) := h0.setCell hgK _
    exact (h1.trans (hb5.mono (by simp; omega))).grown hg7 (by omega) (fun q hq => (h.g.own.lt q hq).1)
/-- All resolvents of two clauses on the variables below v are there. -/
def doneV (L : List (List Int)) (c d : List Int) (v : Nat) : Prop := ∀ u, u < v → (resOk c d (u : Int) = true → resL c d (u : Int) ∈ L) ∧ (resOk d c (u : Int) = true → resL d c (u : Int) ∈ L)
theorem doneV_all {L : List (List Int)} {c d : List Int} (h : doneV L c d 6) : (∀ r ∈ rvL c d 6, r ∈ L) ∧ ∀ r ∈ rvL d c 6, r ∈ L := by
  refine ⟨fun r hr => ?_, fun r hr => ?_⟩
  · unfold rvL at hr
    rw [List.mem_map] at hr
    obtain ⟨u, hu, rfl⟩ := hr
    rw [List.mem_filter, List.mem_range] at hu
    exact (h u hu.1).1 hu.2
  · unfold rvL at hr
    rw [List.mem_map] at hr
    obtain ⟨u, hu, rfl⟩ := hr
    rw [List.mem_filter, List.mem_range] at hu
    exact (h u hu.1).2 hu.2
theorem doneV_mono {L M : List (List Int)} {c d : List Int} {v : Nat} (h : doneV L c d v) (hm : ∀ x ∈ L, x ∈ M) : doneV M c d v := fun u hu => ⟨fun h1 => hm _ ((h u hu).1 h1), fun h1 => hm _ ((h u hu).2 h1)⟩
theorem doneV_succ {L : List (List Int)} {c d : List Int} {v : Nat} (h : doneV L c d v) (h1 : resOk c d (v : Int) = true → resL c d (v : Int) ∈ L) (h2 : resOk d c (v : Int) = true → resL d c (v : Int) ∈ L) : doneV L c d (v + 1) := by
  intro u hu
  rcases Nat.lt_or_ge u v with h3 | h3
  · exact h u h3
  · obtain rfl : u = v := by omega
    exact ⟨h1, h2⟩
theorem resOk_one {c d : List Int} (hc : clauseB c = true) {v : Nat} (h : resOk c d (v : Int) = true) : resOk d c (v : Int) = false := by
  cases h2 : resOk d c (v : Int)
  · rfl
  · unfold resOk at h h2
    simp only [Bool.and_eq_true, decide_eq_true_eq] at h h2
    have := clause_same hc h.1.1 h2.1.2 (by omega)
    omega
theorem resOk_clause {c d : List Int} {v : Int} (h : resOk c d v = true) : clauseB (resL c d v) = true := by
  unfold resOk at h
  rw [Bool.and_eq_true] at h
  exact h.2
theorem resOk_mem {c d : List Int} {v : Nat} (hv : v < 6) (h : resOk c d (v : Int) = true) : resL c d (v : Int) ∈ rvL c d 6 := by
  unfold rvL
  rw [List.mem_map]
  exact ⟨v, List.mem_filter.2 ⟨List.mem_range.2 hv, h⟩, rfl⟩
end Go.Proofs.Ytobbhflajkhcdaa
