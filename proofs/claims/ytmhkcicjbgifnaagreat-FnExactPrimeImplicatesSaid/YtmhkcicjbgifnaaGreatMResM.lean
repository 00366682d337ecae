/- slices.SortFunc on a list of lists of one's own; slices.SortedFunc over maps.Values. -/
import Derived.Test.YtmhkcicjbgifnaaGreatMSeq
import Derived.Test.YtmhkcicjbgifnaaGreatMSortII
import Derived.Test.YtmhkcicjbgifnaaGreatMMapVM
import Derived.Test.YtmhkcicjbgifnaaGreatMIConcat
import Derived.Test.YtmhkcicjbgifnaaGreatMListFns
import Derived.Lib.SmallJoins

namespace Go.Proofs.YtmhkcicjbgifnaaGreat
open Go.RowKit
set_option linter.unusedVariables false
set_option linter.unusedSimpArgs false

theorem strict_of_sorted {L : List (List Int)} (hs : L.Pairwise fun a b => ¬ ltI b a) (hn : L.Nodup) : L.Pairwise ltI := by
  unfold List.Nodup at hn
  exact List.Pairwise.imp₂ (fun {a b} h1 h2 => by
    apply Classical.byContradiction
    intro h3
    exact h2 (lo_lists.tri a b h3 h1)) hs hn
theorem sortGrow_any (K : Nat) (v : Value) (ss : List SlI) (w : World) (h : GrowI K w v ss) (hn : (ss.map Prod.snd).Nodup) (hl : ss.length < 4611686018427387904) :
    Calls Tryz.prog 23 #[v, .func (.func 24) #[] #[]] w fun e w' => e = .returned (.tuple #[]) ∧ ∃ ss' : List SlI, GrowI K w' v ss' ∧ Hid ((ss'.map Prod.snd).Pairwise ltI ∧ ∀ x, x ∈ ss'.map Prod.snd ↔ x ∈ ss.map Prod.snd) ∧ ss'.length = ss.length ∧ Below K w w' := by
  refine (sortFuncII_any K v ss w h.own (fun s hs => ints_of_own (h.row s hs)) (fun s hs k hk => h.ap s hs k hk) hl).mono ?_
  rintro e w1 ⟨rfl, ss1, hp, hsort, ho, hg⟩
  have hlen : ss1.length = ss.length := hp.length_eq
  rw [← hlen] at ho
  have hmem := fun s (hs : s ∈ ss1) => hp.mem_iff.1 hs
  refine ⟨rfl, ss1, ⟨ho, fun s hs => row_same (h.row s (hmem s hs)) fun k hk1 _ hl => hg.block k hl fun e => h.ap s (hmem s hs) k e.symm hk1, fun s hs k hk => h.ap s (hmem s hs) k hk, (hp.pairwise_iff (fun {a b} hab k hk hk2 => hab k hk2 hk)).2 h.pw, Nat.le_trans h.ks hg.size⟩, Lib.hid ⟨strict_of_sorted hsort ((hp.map Prod.snd).nodup_iff.2 hn), fun x => (hp.map Prod.snd).mem_iff⟩, hlen, below_of_grownBy hg h.ks (fun k hk => (h.own.lt k hk).1)⟩
/-- The kept terms that have come as values, with their contents. -/
theorem kept_list {K : Nat} {p : Nat → Bool} {f : Int → Option Value} {w w2 : World} {v : Value} {hs : List HdI} (hf : KeptF K p f w) (hk : K ≤ w.heap.size) (ha : AllV f hs) (ho : w2.ownsRow w.heap.size 48 1 v hs.length (hs.map hdVI)) (hb : Below w.heap.size w w2) :
    ∃ ss : List SlI, GrowI K w2 v ss ∧ (ss.map Prod.snd).Nodup ∧ ∀ T, T ∈ ss.map Prod.snd ↔ clauseB T = true ∧ f ((orBits T : Nat) : Int) ≠ none := by
  classical
  obtain ⟨ps, rfl, hnd, hdom, hval⟩ := ha
  have hex : ∀ q ∈ ps, ∃ T : List Int, clauseB T = true ∧ q.1 = ((orBits T : Nat) : Int) ∧ RowOf K w (hdVI q.2) T := fun q hq => by
    obtain ⟨T, h1, _, h3, h4⟩ := hf.sound q.1 _ (hval q hq)
    exact ⟨T, h1, h3, h4⟩
  obtain ⟨t, ht⟩ : ∃ t : Int × HdI → List Int, ∀ q ∈ ps, clauseB (t q) = true ∧ q.1 = ((orBits (t q) : Nat) : Int) ∧ RowOf K w (hdVI q.2) (t q) :=
    ⟨fun q => if h : ∃ T : List Int, clauseB T = true ∧ q.1 = ((orBits T : Nat) : Int) ∧ RowOf K w (hdVI q.2) T then Classical.choose h else [], fun q hq => by
      have h := hex q hq
      dsimp only
      rw [dif_pos h]
      exact Classical.choose_spec h⟩
  have hrow : ∀ q ∈ ps, w2.ownsRow K 2 1 (hdVI q.2) (t q).length ((t q).map (Value.int .i64)) := fun q hq => own_below (ht q hq).2.2 hb (Nat.le_refl _)
  have hpwk : ps.Pairwise fun a b => a.1 ≠ b.1 := by
    unfold List.Nodup at hnd
    rwa [List.pairwise_map] at hnd
  refine ⟨ps.map fun q => (q.2, t q), ⟨?_, fun s hs => ?_, fun s hs k hk1 hk2 => ?_, ?_, Nat.le_trans hk hb.size⟩, ?_, fun T => ?_⟩
  · rw [List.length_map, List.map_map]
    rw [List.length_map, List.map_map] at ho
    exact own_mono ho hk
  · obtain ⟨q, hq, rfl⟩ := List.mem_map.1 hs
    exact hrow q hq
  · obtain ⟨q, hq, rfl⟩ := List.mem_map.1 hs
    have h1 := (ho.lt k hk1).1
    have h2 := ((ht q hq).2.2.lt k hk2).2
    omega
  · rw [List.pairwise_map]
    exact hpwk.imp_of_mem fun {a b} ha hb hab => hf.apart a.1 b.1 _ _ hab (hval a ha) (hval b hb)
  · unfold List.Nodup
    rw [List.map_map, List.pairwise_map]
    refine hpwk.imp_of_mem fun {a b} ha hb hab e => hab ?_
    rw [(ht a ha).2.1, (ht b hb).2.1]
    have e2 : t a = t b := e
    rw [e2]
  · rw [List.map_map, List.mem_map]
    constructor
    · rintro ⟨q, hq, rfl⟩
      refine ⟨(ht q hq).1, ?_⟩
      show f ((orBits (t q) : Nat) : Int) ≠ none
      rw [← (ht q hq).2.1, hval q hq]
      simp
    · rintro ⟨h1, h2⟩
      have h3 := (hdom ((orBits T : Nat) : Int)).2 (Option.isSome_iff_ne_none.2 h2)
      obtain ⟨q, hq, he⟩ := List.mem_map.1 h3
      have h4 := (ht q hq).2.1
      have h5 : t q = T := key_inj (ht q hq).1 h1 (by omega)
      exact ⟨q, hq, h5⟩
theorem kept_slices {K : Nat} {p : Nat → Bool} {f : Int → Option Value} {w : World} (hf : KeptF K p f w) : ∀ x v, f x = some v → ∃ h : HdI, v = hdVI h := fun x v hx => by
  obtain ⟨T, _, _, _, h4⟩ := hf.sound x v hx
  rcases h4.2 with ⟨h, _⟩ | ⟨g, cap, cur, h, _⟩
  · exact ⟨(none, 0, 0), h⟩
  · exact ⟨(some ⟨g, 0, none⟩, T.length, cap), h⟩
set_option maxHeartbeats 1000000 in
theorem sortedFunc_any (K : Nat) (p : Nat → Bool) (Bm b nn : Nat) (hnn : nn ≤ 1000) (f : Int → Option Value) (w : World) (hm : w.cell? ⟨Bm, 0, none⟩ = some (.map (some b))) (hown : MapV Tryz.prog 2 w b nn f) (hf : KeptF K p f w) (hk : K ≤ w.heap.size) :
    Calls Tryz.prog 47 #[.func (.func 75) #[] #[.pointer (some ⟨Bm, 0, none⟩)], .func (.func 24) #[] #[]] w fun e w' => ∃ (v : Value) (ss : List SlI), e = .returned v ∧ GrowI K w' v ss ∧ Hid ((ss.map Prod.snd).Pairwise ltI ∧ ∀ T, T ∈ ss.map Prod.snd ↔ clauseB T = true ∧ f ((orBits T : Nat) : Int) ≠ none) ∧ Below K w w' := by
  have hc := Lib.hid (collect_any Bm b nn hnn f (kept_slices hf) w hm hown)
  have hfh := Lib.hid hf
  clear hm hown hf
  go_enter Tryz.func47, Tryz.ntmps47
  go_wp2_with fail
  refine hc.out.mono ?_
  rintro e w2 ⟨v, hs, rfl, ha, ho, hb⟩
  obtain ⟨ss, hg, hnd, hmem⟩ := kept_list hfh.out hk ha ho hb
  have hln : ss.length ≤ 4096 := by
    have := clauses_len hnd fun x hx => ((hmem x).1 hx).1
    rwa [List.length_map] at this
  have hsrt := Lib.hid (sortGrow_any K v ss w2 hg hnd (by omega))
  have hmem := Lib.hid hmem
  have hbh := Lib.hid hb
  clear ha ho hg hnd hb hc
  go_wp2_with fail
  refine hsrt.out.mono ?_
  rintro e w3 ⟨rfl, ss3, hg3, hs3, hl3, hb3⟩
  have hg3 := Lib.hid hg3
  have hb3 := Lib.hid hb3
  clear hl3
  go_wp2_with fail
  go_ret
  exact ⟨v, ss3, rfl, hg3.out, Lib.hid ⟨hs3.out.1, fun T => (hs3.out.2 T).trans (hmem.out T)⟩, (hbh.out.mono hk).trans hb3.out⟩
end Go.Proofs.YtmhkcicjbgifnaaGreat

/- impl.dropped: a list without one of its places, as a row of its own. -/
namespace Go.Proofs.YtmhkcicjbgifnaaGreat
open Go.RowKit
set_option linter.unusedVariables false
theorem cell_pair0 (w : World) (x y : Value) (t : TypeId) : ((w.alloc (.cells #[x, y] t)).drew).cell? ⟨w.heap.size, 0, none⟩ = some x := by
  show (w.alloc (.cells #[x, y] t)).cell? _ = _
  unfold World.cell?
  rw [heap_alloc_new]
  rfl
theorem cell_pair1 (w : World) (x y : Value) (t : TypeId) : ((w.alloc (.cells #[x, y] t)).drew).cell? ⟨w.heap.size, 1, none⟩ = some y := by
  show (w.alloc (.cells #[x, y] t)).cell? _ = _
  unfold World.cell?
  rw [heap_alloc_new]
  rfl
theorem below_drewX (w : World) (n : Nat) : Below w.heap.size w (w.drewN n) := below_drewN (Below.refl _ _) n

set_option maxHeartbeats 4000000 in
set_option maxRecDepth 100000 in
theorem dropped_any (v : Value) (xs : List Int) (i : Nat) (w : World) (h : Ints w v xs) (hi : i < xs.length) (hn : xs.length ≤ 1000) :
    Calls Tryz.prog 46 #[v, .int .i64 (i : Int)] w fun e w' => ∃ v', e = .returned v' ∧ w'.ownsRow w.heap.size 2 1 v' (xs.length - 1) ((xs.take i ++ xs.drop (i + 1)).map (Value.int .i64)) ∧ Below w.heap.size w w' := by
  obtain ⟨hm, a, c, b, o, rfl, hc, h0, hcell⟩ := h.opened
  rcases h0 with h0 | ⟨h0, rfl⟩
  · omega
  clear h
  obtain ⟨ad, had, hsrc0⟩ : ∃ ad : Addr, (if c = i + 1 then some (⟨b, o, none⟩ : Addr) else some ⟨b, o + (i + 1), none⟩) = some ad ∧ ∀ j u, ((xs.drop (i + 1)).map (Value.int .i64))[j]? = some u → w.cell? (ad.add j) = some u := by
    have hs := ints_src hcell.out (Below.refl w.heap.size w) (Nat.le_refl _)
    by_cases hcc : c = i + 1
    · refine ⟨_, if_pos hcc, fun j u hu => ?_⟩
      rw [List.drop_of_length_le (by omega)] at hu
      simp at hu
    · refine ⟨_, if_neg hcc, fun j u hu => ?_⟩
      rw [List.map_drop, List.getElem?_drop] at hu
      have := hs _ u hu
      rw [Addr.add_lit] at this ⊢
      rw [show o + (i + 1) + j = o + (i + 1 + j) by omega]
      exact this
  have hsrc1 : ∀ j u, ((xs.take i).map (Value.int .i64))[j]? = some u → w.cell? ((⟨b, o, none⟩ : Addr).add j) = some u := by
    intro j u hu
    have hs := ints_src hcell.out (Below.refl w.heap.size w) (Nat.le_refl _)
    refine hs j u ?_
    rw [List.map_take, List.getElem?_take] at hu
    split at hu
    · exact hu
    · cases hu
  have hwr : IntKind.i64.wrap ((i : Int) + 1) = (i : Int) + 1 := by rw [IntKind.wrap_i64]; omega
  have htn : ((i : Int) + 1).toNat = i + 1 := by omega
  have hk0 : (0 : Int) ≤ (i : Int) + 1 := by omega
  have hkc : (i : Int) ≤ (c : Int) := by omega
  have hkn : ((i : Int) + 1) ≤ (xs.length : Int) := by omega
  have hcon := Lib.hid (fun (W : World) (hb : Below w.heap.size w W) (g : Nat) (h1 : W.cell? ⟨g, 0, none⟩ = some (.slice (some ⟨b, o, none⟩) i c)) (h2 : W.cell? ⟨g, 1, none⟩ = some (.slice (some ad) (xs.length - (i + 1)) (c - (i + 1)))) =>
    concat2_any g ⟨b, o, none⟩ ad i c (xs.length - (i + 1)) (c - (i + 1)) (xs.take i) (xs.drop (i + 1)) W h1 h2 (by rw [List.length_take]; omega) (by rw [List.length_drop]) (fun j u hu => keep_cell hb (hsrc1 j u hu)) (fun j u hu => keep_cell hb (hsrc0 j u hu)) (by omega) (by omega))
  have hcell := hcell
  clear hsrc0 hsrc1 hcell
  have hbw := Lib.hid (fun (x : Obj) => ((Below.refl w.heap.size w).alloc (Nat.le_refl _) x).drew)
  go_enter Tryz.func46, Tryz.ntmps46
  go_wp2_with fail
  go_region_with (first | (go_at_call 73; refine (hcon.out _ (hbw.out _) _ (cell_pair0 _ _ _ _) (cell_pair1 _ _ _ _)).mono ?_; rintro e w5 ⟨v5, rfl, o5, b5⟩))
  all_goals
    go_wp2_with fail
    go_ret
    refine ⟨v5, rfl, ?_, keep_step b5 (hbw.out _)⟩
    rw [show xs.length - 1 = i + (xs.length - (i + 1)) by omega]
    exact Go.Joins.ownsRow_le o5 (by simp)
end Go.Proofs.YtmhkcicjbgifnaaGreat
