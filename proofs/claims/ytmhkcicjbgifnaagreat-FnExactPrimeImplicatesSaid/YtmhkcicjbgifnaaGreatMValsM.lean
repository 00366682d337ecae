/- impl.allTerms: the closure is made and called. -/
import Derived.Test.YtmhkcicjbgifnaaGreatMAllT
import Derived.Test.YtmhkcicjbgifnaaGreatMKept
import Derived.RangeFuncMany
import Derived.RangeFuncLeaves
import Derived.Sort.MapsRangeIn
import Derived.Lib.SlKeysI
import Derived.WalkKit
import Derived.OwnWalkIn
import Derived.TacticsInMore
import Derived.RegionIn
import Derived.LoopNIn
import Derived.LoopIn
import Derived.Shelf.Abstract

namespace Go.Proofs.YtmhkcicjbgifnaaGreat
open Go.RowKit Go.Deep
set_option linter.unusedVariables false
set_option linter.unusedSimpArgs false

theorem allSt_begin {K : Nat} {p : Nat → Bool} {mb kb b n : Nat} {f : Int → Option Value} {w : World} {ta tb : TypeId} (h : KeptSt K p mb kb b n f w) :
    AllSt K p mb kb w.heap.size (w.heap.size + 1) b n f ((w.alloc (.cells #[(.func (.func 42) #[] #[.pointer (some ⟨mb, 0, none⟩), .pointer (some ⟨kb, 0, none⟩)])] ta)).alloc (.cells #[(.func (.func 70) #[] #[.pointer (some ⟨w.heap.size, 0, none⟩), .pointer (some ⟨w.heap.size + 1, 0, none⟩)])] tb)) ∧ Below w.heap.size w ((w.alloc (.cells #[(.func (.func 42) #[] #[.pointer (some ⟨mb, 0, none⟩), .pointer (some ⟨kb, 0, none⟩)])] ta)).alloc (.cells #[(.func (.func 70) #[] #[.pointer (some ⟨w.heap.size, 0, none⟩), .pointer (some ⟨w.heap.size + 1, 0, none⟩)])] tb)) := by
  have hb : Below w.heap.size w ((w.alloc (.cells #[(.func (.func 42) #[] #[.pointer (some ⟨mb, 0, none⟩), .pointer (some ⟨kb, 0, none⟩)])] ta)).alloc (.cells #[(.func (.func 70) #[] #[.pointer (some ⟨w.heap.size, 0, none⟩), .pointer (some ⟨w.heap.size + 1, 0, none⟩)])] tb)) := ((Below.refl _ w).alloc (Nat.le_refl _) _).alloc (by simp) _
  exact ⟨⟨h.below hb, World.cell?_alloc2_first _ _ _ _, World.cell?_alloc2_new _ _ _ _⟩, hb⟩
set_option maxHeartbeats 4000000 in
set_option maxRecDepth 100000 in
theorem allTerms_any (K : Nat) (p : Nat → Bool) (mb kb b : Nat) (w : World) (h : KeptSt K p mb kb b 0 (fun _ => none) w) :
    Calls Tryz.prog 41 #[.func (.func 42) #[] #[.pointer (some ⟨mb, 0, none⟩), .pointer (some ⟨kb, 0, none⟩)]] w fun e w' => (∃ u, e = .returned u) ∧ ∃ f', KeptSt K p mb kb b 1000 f' w' ∧ w.grownBy w' (some b) ∧ domB (fun _ => none) f' (fun S => impB p S = true) := by
  have hall := Lib.hid (fun ta tb => allSt_begin (ta := ta) (tb := tb) h)
  clear h
  go_enter Tryz.func41, Tryz.ntmps41
  go_wp2_with fail
  refine (all1_any K p mb kb w.heap.size (w.heap.size + 1) b 12 0 0 (fun _ => none) (.slice none 0 0) [] _ rfl rfl clause_nil (World.ownsRow_nil _ _ _ _) (hall.out _ _).1 (by have := remL_even 6; simp only [show 2 * 6 = 12 from rfl, show 3 ^ 6 = 729 from rfl] at this; omega)).mono ?_
  rintro e w' ⟨⟨u, rfl⟩, n', f', k1, k2, k3, k4⟩
  have hn1 : n' ≤ 1000 := by have := remL_even 6; simp only [show 2 * 6 = 12 from rfl, show 3 ^ 6 = 729 from rfl] at this; omega
  have hk := Lib.hid (show KeptSt K p mb kb b 1000 f' w' from ⟨k2.k.mc, k2.k.kc, k2.k.map.mono hn1, k2.k.kept, k2.k.ks⟩)
  have hg := Lib.hid (grown_trans (grown_of_below (hall.out _ _).2) k3)
  have hd := Lib.hid (k4.same (q := fun S => impB p S = true) fun S hS => ⟨fun h => ⟨h, S, rfl⟩, fun h => h.1⟩)
  clear k2 k3 k4
  go_wp2_with fail
  refine bodyPost_end (results_none rfl _ _ _) rfl ?_
  exact ⟨⟨_, rfl⟩, f', hk.out, hg.out, hd.out⟩
end Go.Proofs.YtmhkcicjbgifnaaGreat

/- maps.Values over a map of slices, as an iterator. (turned from the kit's worked text on maps.Values) -/
namespace Go.Proofs.YtmhkcicjbgifnaaGreat
open Go.RowKit Go.Maps Go.Shelf
set_option linter.unusedVariables false
set_option linter.unusedSimpArgs false

theorem law_i64 : Keyed Tryz.prog 2 := int_keyed Tryz.underlying2
/-- All of f's values have come, each key's once. -/
def AllV (f : Int → Option Value) (hs : List HdI) : Prop := ∃ ps : List (Int × HdI), hs = ps.map Prod.snd ∧ (ps.map Prod.fst).Nodup ∧ (∀ x, x ∈ ps.map Prod.fst ↔ (f x).isSome = true) ∧ ∀ q ∈ ps, f q.1 = some (hdVI q.2)
set_option maxRecDepth 100000 in
set_option maxHeartbeats 1000000 in
theorem values1_in (F : Fence) (n : Nat) (h8 : F.fn 75) (hro : F.round = none) (hn : 1 ≤ n) (l Bm b nn : Nat) (D0 : DataW Value) (f : Int → Option Value) (hrf : ReadsF D0 f) (hsl : ∀ x v, f x = some v → ∃ h : HdI, v = hdVI h) (J Jx : List HdI → World → Prop)
    (hY : ∀ pre x W, J pre W → pre.length < Maps.size D0 → YieldAt F (n - 1) Tryz.prog l #[hdVI x] W fun e W' =>
      (e = .returned (.bool true) ∧ J (pre ++ [x]) W' ∧ KeepsWalks W W') ∨ (e = .returned (.bool false) ∧ Jx (pre ++ [x]) W'))
    (W : World) (hJ : AbidesFrom W.heap.size J) (hm : W.cell? ⟨Bm, 0, none⟩ = some (.map (some b))) (hown : W.ownsMap Tryz.prog 2 heldElem b nn D0) (h0 : J [] W) :
    CallsIn F n Tryz.prog 75 #[.func (.yield l) #[] #[], .pointer (some ⟨Bm, 0, none⟩)] W fun e W' => (∃ v, e = .returned v) ∧
      ((∃ xs, AllV f xs ∧ J xs W') ∨ (∃ pre, True ∧ Jx pre W')) := by
  refine callsIn_of_wp Tryz.func75 rfl h8 ?_ hro
  simp only [Tryz.ntmps75, List.size_toArray, List.length_cons, List.length_nil, Nat.reduceAdd, Nat.reduceSub, Array.replicate_succ, Array.replicate_zero, List.push_toArray, List.append_toArray, List.nil_append, List.cons_append]
  gi_wp2_with (first
    | (gi_at_range; refine wpListIn_range_own _ rfl _ 61 rfl 2 48 law_i64 Tryz.underlying61 _ b nn _ rfl hown ?_; intro w0 hrg0 hg0 hs0)
    | gi_in)
  go_frame
  gi_loopw [4] (fun _ wr => ∃ (left : Lit → Bool) (cnt : Nat) (ps : List (Int × HdI)), wr.ranges Tryz.prog 2 heldElem b W.heap.size nn D0 left cnt ∧ ps.length + cnt ≤ Maps.size D0 ∧ CollectedI D0 left (ps.map Prod.fst) ∧ (∀ q ∈ ps, f q.1 = some (hdVI q.2)) ∧ J (ps.map Prod.snd) wr)
    (fun _ wr => wr.rangeLeft b W.heap.size)
  case atStart =>
    exact ⟨_, _, [], hrg0, by simp, CollectedI.start D0, by simp, hJ [] W w0 none h0 hg0 (fun r e => by cases e)⟩
  case round =>
    obtain ⟨left, cnt, ps, hrg, hcs, hC, hV, hJs⟩ := hrel
    gi_wp2_with (first
      | (gi_at_next; refine wpListIn_next_ranges _ rfl _ rfl 2 law_i64 heldElem (Value.int .i64) (fun v : Value => v) (fun key kl hk => by obtain ⟨x, hx, _⟩ := Maps.keyOf_int_inv Tryz.underlying2 hk; exact ⟨x, hx⟩) (fun v y hv => ⟨v, rfl⟩) b W.heap.size nn _ _ _ rfl hrg ?_ ?_)
      | gi_in)
    · intro hc0 hl0
      gi_wp2
      go_end0
      exact ⟨⟨_, rfl⟩, .inl ⟨_, ⟨ps, rfl, hC.1, fun x => by rw [hC.2 x, hl0, (hrf x).2]; simp, hV⟩, hJs⟩⟩
    · intro x c kl yd yp w2 cnt2 hkey hlk hv hat hrg2 hlt hg2 hs2 hen
      obtain ⟨x', ex, rfl, _⟩ := Maps.keyOf_int_inv Tryz.underlying2 hkey
      obtain rfl : x = x' := by simpa using ex
      have hfx : f x = some c := by
        have h1 : yd = .held c := (congrArg Prod.fst (Option.some.inj hv)).symm
        have h2 := hat (.lit (.int .i64 0))
        rw [(hrf x).1, h1] at h2
        cases hf : f x with
        | none => rw [hf] at h2; cases h2
        | some u => rw [hf] at h2; injection h2 with e; rw [e]
      obtain ⟨hd, rfl⟩ := hsl x c hfx
      have hJ2 : J (ps.map Prod.snd) w2 := hJ _ wr w2 (some W.heap.size) hJs hg2 (fun r e => by cases e; exact ⟨Nat.le_refl _, hrg.iter_walk⟩)
      obtain ⟨fn, tmps, assign, body, hy, hR⟩ := hY (ps.map Prod.snd) hd w2 hJ2 (by simp; omega)
      clear hs2
      have hC2 : CollectedI D0 (fun z => left z && !z.sameKey (.int .i64 x)) ((ps ++ [(x, hd)]).map Prod.fst) := by simpa using hC.step hlk hat
      have hV2 : ∀ q ∈ ps ++ [(x, hd)], f q.1 = some (hdVI q.2) := fun q hq => (List.mem_append.1 hq).elim (hV q) (fun e => by simp at e; subst e; exact hfx)
      unfold hdVI at hy hen
      unfold hdVI
      gi_wp2
      refine hR.mono ?_
      rintro e W3 (⟨rfl, hJ3, hk3⟩ | ⟨rfl, hJx3⟩)
      · gi_wp2
        have hrg3 := hrg2.of_walks hk3
        go_roundw
        case rel => exact ⟨_, cnt2, ps ++ [(x, hd)], hrg3, by simp; omega, hC2, hV2, by simpa using hJ3⟩
        case measure => rw [hrg3.left_eq, hrg.left_eq]; exact hlt
      · gi_wp2
        refine bodyPost_ret (results_none rfl _ _ _) rfl ?_
        exact ⟨⟨_, rfl⟩, .inr ⟨_, trivial, hJx3⟩⟩
end Go.Proofs.YtmhkcicjbgifnaaGreat
