/- impl.allTerms: all terms, by a recursive closure; each is handed to impl.primes$1. -/
import Derived.Test.YtmhkcicjbgifnaaGreatMKept
import Derived.Test.YtmhkcicjbgifnaaGreatMBfsMath
import Derived.Deep.RegionLawGrows
import Derived.RangeFuncBox
import Derived.IntWalk
import Derived.Laws.EntriesVeiled

namespace Go.Proofs.YtmhkcicjbgifnaaGreat
open Go.RowKit Go.Deep
set_option linter.unusedVariables false
set_option linter.unusedSimpArgs false

/-- How many terms are still to come from a literal on (at most). -/
def remL : Nat → Nat
  | 0 => 0
  | k + 1 => 3 ^ (k / 2) + remL k
theorem remL_even (u : Nat) : remL (2 * u) + 1 = 3 ^ u := by
  induction u with
  | zero => rfl
  | succ u ih =>
    rw [show 2 * (u + 1) = 2 * u + 1 + 1 by omega]
    simp only [remL]
    rw [show (2 * u + 1) / 2 = u by omega, show 2 * u / 2 = u by omega, Nat.pow_succ]
    omega
theorem remL_step {l : Nat} (h : l < 12) : remL (12 - l) = 1 + remL (12 - (l / 2 * 2 + 2)) + remL (12 - (l + 1)) := by
  have h1 := remL_even ((12 - (l / 2 * 2 + 2)) / 2)
  rw [show 2 * ((12 - (l / 2 * 2 + 2)) / 2) = 12 - (l / 2 * 2 + 2) by omega] at h1
  rw [show 12 - l = (12 - (l + 1)) + 1 by omega]
  simp only [remL]
  rw [show (12 - (l + 1)) / 2 = (12 - (l / 2 * 2 + 2)) / 2 by omega, ← h1]
  omega
/-- The terms that have come when the literals below l are over. -/
def partQ (p : Nat → Bool) (T : List Int) (l : Int) (S : List Int) : Prop := impB p S = true ∧ (S = T ∨ ∃ y t, S = T ++ y :: t ∧ y < l)
def extQ (p : Nat → Bool) (T : List Int) (S : List Int) : Prop := impB p S = true ∧ ∃ t, S = T ++ t
theorem domB.trans {f f1 f2 : Int → Option Value} {q q1 q2 : List Int → Prop} (h : domB f f1 q1) (k : domB f1 f2 q2) (hq : ∀ S, clauseB S = true → (q S ↔ q1 S ∨ q2 S)) : domB f f2 q := fun S hS => by
  rw [k S hS, h S hS, hq S hS, or_assoc]
theorem domB.same {f f1 : Int → Option Value} {q q1 : List Int → Prop} (h : domB f f1 q1) (hq : ∀ S, clauseB S = true → (q S ↔ q1 S)) : domB f f1 q := fun S hS => by rw [h S hS, hq S hS]
theorem partQ_first {p : Nat → Bool} {T S : List Int} {l : Int} (hl : ∀ y t, S = T ++ y :: t → l ≤ y) : partQ p T l S ↔ (S = T ∧ impB p T = true) := by
  unfold partQ
  constructor
  · rintro ⟨h1, rfl | ⟨y, t, h2, h3⟩⟩
    · exact ⟨rfl, h1⟩
    · have := hl y t h2; omega
  · rintro ⟨rfl, h⟩
    exact ⟨h, .inl rfl⟩
theorem partQ_next {p : Nat → Bool} {T S : List Int} {l : Int} : partQ p T (l + 1) S ↔ partQ p T l S ∨ extQ p (T ++ [l]) S := by
  unfold partQ extQ
  constructor
  · rintro ⟨h1, h2 | ⟨y, t, h2, h3⟩⟩
    · exact .inl ⟨h1, .inl h2⟩
    · by_cases e : y = l
      · subst e
        exact .inr ⟨h1, t, by rw [h2]; simp⟩
      · exact .inl ⟨h1, .inr ⟨y, t, h2, by omega⟩⟩
  · rintro (⟨h1, h2 | ⟨y, t, h2, h3⟩⟩ | ⟨h1, t, h2⟩)
    · exact ⟨h1, .inl h2⟩
    · exact ⟨h1, .inr ⟨y, t, h2, by omega⟩⟩
    · exact ⟨h1, .inr ⟨l, t, by rw [h2]; simp, by omega⟩⟩
theorem partQ_last {p : Nat → Bool} {T S : List Int} (hS : clauseB S = true) : extQ p T S ↔ partQ p T 12 S := by
  unfold partQ extQ
  constructor
  · rintro ⟨h1, t, h2⟩
    refine ⟨h1, ?_⟩
    cases t with
    | nil => exact .inl (by simpa using h2)
    | cons y t =>
      have := clause_in hS (x := y) (by rw [h2]; simp)
      exact .inr ⟨y, t, h2, by omega⟩
  · rintro ⟨h1, h2 | ⟨y, t, h2, _⟩⟩
    · exact ⟨h1, [], by simpa using h2⟩
    · exact ⟨h1, _, h2⟩
theorem next_le {T t S : List Int} {y : Int} (hS : clauseB S = true) (h : S = T ++ y :: t) : nextL T ≤ y := by
  have h1 : (T ++ [y]).Sublist S := by
    rw [h]
    exact (List.Sublist.refl T).append (List.Sublist.cons_cons y (List.nil_sublist t))
  exact (snoc_next.1 (clause_sub h1 hS)).2.1
theorem below_then {a x y : World} (h : Below a.heap.size a x) (g : x.grownBy y none) : Below a.heap.size a y := keep_step ⟨g.os, g.tape, g.output, g.size, fun i hi => g.block i hi (by simp)⟩ h
structure AllSt (K : Nat) (p : Nat → Bool) (mb kb fb gb b n : Nat) (f : Int → Option Value) (w : World) : Prop where
  k : KeptSt K p mb kb b n f w
  fc : w.cell? ⟨fb, 0, none⟩ = some (.func (.func 42) #[] #[.pointer (some ⟨mb, 0, none⟩), .pointer (some ⟨kb, 0, none⟩)])
  gc : w.cell? ⟨gb, 0, none⟩ = some (.func (.func 70) #[] #[.pointer (some ⟨fb, 0, none⟩), .pointer (some ⟨gb, 0, none⟩)])
theorem AllSt.below {K : Nat} {p : Nat → Bool} {mb kb fb gb b n : Nat} {f : Int → Option Value} {w w' : World} (h : AllSt K p mb kb fb gb b n f w) (hb : Below w.heap.size w w') : AllSt K p mb kb fb gb b n f w' := ⟨h.k.below hb, keep_cell hb h.fc, keep_cell hb h.gc⟩
theorem AllSt.mapped {K : Nat} {p : Nat → Bool} {mb kb fb gb b n n' : Nat} {f f' : Int → Option Value} {w w' : World} (h : AllSt K p mb kb fb gb b n f w) (hk : KeptSt K p mb kb b n' f' w') (hg : w.grownBy w' (some b)) : AllSt K p mb kb fb gb b n' f' w' := ⟨hk, cell_mapped h.fc h.k.map hg, cell_mapped h.gc h.k.map hg⟩
theorem clip_any (a : Option Addr) (n c : Nat) (w : World) (h : (a = none ∧ n = 0 ∧ c = 0) ∨ ∃ g, a = some ⟨g, 0, none⟩ ∧ n ≤ c) :
    Calls Tryz.prog 71 #[.slice a n c] w fun e w' => e = .returned (.slice a n n) ∧ w = w' := by
  rcases h with ⟨rfl, rfl, rfl⟩ | ⟨g, rfl, hc⟩
  · go_enter Tryz.func71, Tryz.ntmps71
    go_wp2_with fail
    go_ret
    exact ⟨rfl, rfl⟩
  · go_enter Tryz.func71, Tryz.ntmps71
    go_wp2_with fail
    go_ret
    exact ⟨rfl, rfl⟩
set_option maxHeartbeats 8000000 in
set_option maxRecDepth 100000 in
theorem all1_any (K : Nat) (p : Nat → Bool) (mb kb fb gb b : Nat) : ∀ (k from' n : Nat) (f : Int → Option Value) (v : Value) (T : List Int) (w : World), from' + k = 12 → nextL T = (from' : Int) → clauseB T = true → RowOf 0 w v T → AllSt K p mb kb fb gb b n f w → n + 1 + remL k ≤ 1000 →
    Calls Tryz.prog 70 #[v, .int .i64 (from' : Int), .pointer (some ⟨fb, 0, none⟩), .pointer (some ⟨gb, 0, none⟩)] w fun e w' => (∃ u, e = .returned u) ∧ ∃ n' f', n' ≤ n + 1 + remL k ∧ AllSt K p mb kb fb gb b n' f' w' ∧ w.grownBy w' (some b) ∧ domB f f' (extQ p T) := by
  intro k
  induction k using Nat.strongRecOn with
  | ind k ih =>
    intro from' n f v T w hfk hnx hT hrow hst hn
    have hp1 := Lib.hid (primes1_any K p mb kb b n f v T w hst.k (ints_of_own hrow) hT (by omega))
    have hih := Lib.hid ih
    have hrowh := Lib.hid hrow
    have hsth := Lib.hid hst
    have hTh := Lib.hid hT
    have hnxh := Lib.hid hnx
    have hfc := hst.fc
    have hfl : (from' : Int) ≤ 12 := by omega
    obtain ⟨a, c, hv⟩ := (ints_of_own hrow).shape
    have hshape : (a = none ∧ T.length = 0 ∧ c = 0) ∨ ∃ g, a = some ⟨g, 0, none⟩ ∧ T.length ≤ c := by
      rcases hrow.2 with ⟨h2, h1⟩ | ⟨g, cap, cur, h2, _, _, h3, _⟩
      · rw [hv] at h2
        injection h2 with e1 e2 e3
        exact .inl ⟨e1, e2, e3⟩
      · rw [hv] at h2
        injection h2 with e1 e2 e3
        exact .inr ⟨g, e1, by omega⟩
    have htl := clause_len hT
    subst hv
    clear ih hrow hst hT hnx
    have hshape := Lib.hid hshape
    generalize htl2 : T.length = tl at *
    replace htl2 := Lib.hid htl2
    go_enter Tryz.func70, Tryz.ntmps70
    go_wp2_with fail
    refine hp1.out.mono ?_
    rintro e w1 ⟨⟨u0, rfl⟩, f1, k1, g1, d1⟩
    have hst1 := Lib.hid (hsth.out.mapped k1 g1)
    have g1 := Lib.hid g1
    have d1 := Lib.hid (d1.same (q := partQ p T from') fun S hS => partQ_first fun y t hy => by rw [← hnxh.out]; exact next_le hS hy)
    clear k1 hfc hp1
    go_wp2_with fail
    go_loopw [6] (fun l wr => ∃ (ll m : Nat) (f2 : Int → Option Value), l = .int .i64 ll ∧ from' ≤ ll ∧ ll ≤ 12 ∧ Hid (AllSt K p mb kb fb gb b m f2 wr) ∧ Hid (w.grownBy wr (some b)) ∧ Hid (domB f f2 (partQ p T ll)) ∧ m + remL (12 - ll) ≤ n + 1 + remL k) (fun l _ => 12 - (intOf l).toNat)
    case atStart => exact ⟨from', n + 1, f1, rfl, Nat.le_refl _, by omega, hst1, g1, d1, by rw [show 12 - from' = k by omega]; omega⟩
    case round =>
      clear hst1 g1 d1
      obtain ⟨ll, m, f2, rfl, hl1, hl2, hst2, g2, d2, hm⟩ := hrel
      by_cases hlt : ll < 12
      · have hrem := remL_step hlt
        have hcl2 := Lib.hid (show clauseB (T ++ [(ll : Int)]) = true from snoc_next.2 ⟨hTh.out, by rw [hnxh.out]; omega, by omega⟩)
        have hnx2 := Lib.hid (show nextL (T ++ [(ll : Int)]) = ((ll / 2 * 2 + 2 : Nat) : Int) by simp [nextL])
        have hrow2 := row_mapped hrowh.out hsth.out.k.map g2.out
        have hsrc := Lib.hid (show ∀ W, Below wr.heap.size wr W → ∀ bb, a = some bb → ∀ j u, (T.map (Value.int .i64))[j]? = some u → W.cell? (bb.add j) = some u from fun W hW bb hbb j u hu => by
          have h1 := ints_of_own hrow2
          have h2 : Reads wr 1 (.slice a T.length c) T.length (T.map (Value.int .i64)) := by rw [htl2.out]; rw [← htl2.out] at *; exact h1
          rcases reads_src h2 with ⟨h3, h4⟩ | ⟨ad, h3, h4⟩
          · rw [hbb] at h4; cases h4
          · rw [hbb] at h3
            obtain rfl := Option.some.inj h3
            exact keep_cell hW (h4 j u hu))
        have hrec := Lib.hid (show ∀ W v', Below wr.heap.size wr W → RowOf 0 W v' (T ++ [(ll : Int)]) → Calls Tryz.prog 70 #[v', .int .i64 (IntKind.i64.wrap (IntKind.i64.wrap (IntKind.i64.wrap ((ll : Int) / 2) * 2) + 2)), .pointer (some ⟨fb, 0, none⟩), .pointer (some ⟨gb, 0, none⟩)] W fun e w' => (∃ u, e = .returned u) ∧ ∃ n' f', n' ≤ m + 1 + remL (12 - (ll / 2 * 2 + 2)) ∧ AllSt K p mb kb fb gb b n' f' w' ∧ wr.grownBy w' (some b) ∧ domB f2 f' (extQ p (T ++ [(ll : Int)])) from fun W v' hW hr => by
          have h1 := hih.out (12 - (ll / 2 * 2 + 2)) (by omega) (ll / 2 * 2 + 2) m f2 v' (T ++ [(ll : Int)]) W (by omega) hnx2.out hcl2.out hr (hst2.out.below hW) (by omega)
          rw [show (((ll / 2 * 2 + 2 : Nat)) : Int) = IntKind.i64.wrap (IntKind.i64.wrap (IntKind.i64.wrap ((ll : Int) / 2) * 2) + 2) by rw [IntWalk.i64_in ((ll : Int) / 2) (by omega), IntWalk.i64_in ((ll : Int) / 2 * 2) (by omega), IntWalk.i64_in _ (by omega)]; omega] at h1
          refine h1.mono ?_
          rintro e w' ⟨hu, n', f', k1, k2, k3, k4⟩
          exact ⟨hu, n', f', k1, k2, grown_trans (grown_of_below hW) k3, k4⟩)
        have hgc := hst2.out.gc
        have hclip := Lib.hid (fun W => clip_any a tl c W hshape.out)
        have hno := Lib.hid (show a = none → tl = 0 ∧ tl = 0 from fun e => by
          rcases hshape.out with ⟨_, h, _⟩ | ⟨g, h, _⟩
          · exact ⟨h, h⟩
          · rw [h] at e; cases e)
        have hll : (ll : Int) < 12 := by omega
        have hmxa : tl + 1 ≤ maxLen := by unfold maxLen; omega
        have hlw : IntKind.i64.wrap ((ll : Int) + 1) = ((ll + 1 : Nat) : Int) := by rw [IntWalk.i64_in _ (by omega)]; omega
        have hlenT := Lib.hid (show (T.map (Value.int .i64)).length = tl * 1 by rw [List.length_map, htl2.out]; omega)
        obtain ⟨j0, hj, jz0, jz1, jz2⟩ := info_parts info_i64
        have hone := Lib.hid (ints_oneCell [(ll : Int)])
        have hcat := Lib.hid (show T.map (Value.int .i64) ++ [Value.int .i64 (ll : Int)] = (T ++ [(ll : Int)]).map (Value.int .i64) by simp)
        have hlen2 := Lib.hid (show (T ++ [(ll : Int)]).length = tl + 1 by rw [List.length_append, htl2.out]; rfl)
        clear hrow2
        generalize hMM : T.map (Value.int .i64) = MM at *
        replace hMM := Lib.hid hMM
        have hgcA : (wr.alloc (.cells #[.int .i64 (ll : Int)] 2)).cell? ⟨gb, 0, none⟩ = some (.func (.func 70) #[] #[.pointer (some ⟨fb, 0, none⟩), .pointer (some ⟨gb, 0, none⟩)]) := keep_cell ((Below.refl _ _).alloc (Nat.le_refl _) _) hgc
        go_wp2_with fail
        go_region_law (first
          | (refine step_append_grows (by rfl) _ _ _ (by rfl) 2 j0 (.int .i64 0) 1 8 Tryz.underlying48 hj jz0 jz1 jz2 rfl (by decide) a tl tl MM (by rfl) hno.out hlenT.out (hsrc.out _ (by first | exact (Below.refl _ _).alloc (Nat.le_refl _) _ | exact (below_drewN' _ _).alloc (by simp) _ | exact ((Below.refl _ _).drew).alloc (Nat.le_refl _) _ | exact Below.drew ((Below.refl _ _).alloc (Nat.le_refl _) _))) _ 1 1 [.int .i64 (ll : Int)] (by rfl) rfl (cell_one_new _ _ _) hone.out (Nat.lt_succ_self tl) hmxa (by omega) ?_; intro v3 w3 hown3 hgr3; obtain ⟨g3, c3, rfl⟩ := ownsRow_succ hown3; have hb3 : Below wr.heap.size wr w3 := (by first | exact below_then ((Below.refl _ _).alloc (Nat.le_refl _) _) hgr3 | exact below_then ((below_drewN' _ _).alloc (by simp) _) hgr3 | exact below_then (((Below.refl _ _).drew).alloc (Nat.le_refl _) _) hgr3 | exact below_then (Below.drew ((Below.refl _ _).alloc (Nat.le_refl _) _)) hgr3); have hgc3 := keep_cell hb3 hgc; have hr3 : RowOf 0 w3 (.slice (some ⟨g3, 0, none⟩) (tl + 1) c3) (T ++ [(ll : Int)]) := (by unfold RowOf; rw [hlen2.out, ← hcat.out]; exact own_mono hown3 (Nat.zero_le _)))
          | (go_simp; go_at_call 71; refine (hclip.out _).mono ?_; rintro e w' ⟨rfl, rfl⟩)
          | (go_simp; refine (hrec.out _ _ hb3 hr3).mono ?_; rintro e w' ⟨⟨u5, rfl⟩, n5, f5, h5⟩))
        all_goals
          obtain ⟨k1, k2, k3, k4⟩ := h5
          have hst5 := Lib.hid k2
          have g5 := Lib.hid (grown_trans g2.out k3)
          have d5 := Lib.hid (d2.out.trans (q := partQ p T ((ll + 1 : Nat) : Int)) k4 fun S hS => by rw [show ((ll + 1 : Nat) : Int) = (ll : Int) + 1 by omega]; exact partQ_next)
          have hb5 : n5 + remL (12 - (ll + 1)) ≤ n + 1 + remL k := by omega
          clear k2 k3 k4 hgcA hgc
          go_wp2_with fail
          go_roundw
          case rel => exact ⟨ll + 1, n5, f5, by go_num, by omega, by omega, hst5, g5, d5, hb5⟩
          case measure => simp [intOf]; omega
      · obtain rfl : ll = 12 := by omega
        go_wp2_with fail
        refine bodyPost_end (results_none rfl _ _ _) rfl ?_
        exact ⟨⟨_, rfl⟩, m, f2, by have : remL (12 - 12) = 0 := rfl
                                   omega, hst2.out, g2.out, d2.out.same fun S hS => partQ_last hS⟩
end Go.Proofs.YtmhkcicjbgifnaaGreat
