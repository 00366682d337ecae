/- Walks of what joins lists of points: slices.Grow, slices.Concat at PointNode; the makers of point formulas. -/
import Derived.Test.YtadinbjhpbomkaaPts
import Derived.Test.YtadinbjhpbomkaaPtTree
import Derived.Test.YtadinbjhpbomkaaLists
import Derived.Test.YtadinbjhpbomkaaParts
import Derived.Test.YtadinbjhpbomkaaConcat
import Derived.Lib.AppendZeros
namespace Go.Proofs.Ytadinbjhpbomkaa
open Go.RowKit

/-- A slice's three parts, and the points that it reads. -/
abbrev SlP := (Option Addr × Nat × Nat) × List Pt
def slVP (s : SlP) : Value := .slice s.1.1 s.1.2.1 s.1.2.2
def SlicesP (w : World) (v : Value) (ss : List SlP) : Prop := Reads w 1 v ss.length (ss.map slVP)
theorem SlicesP.opened {w : World} {v : Value} {ss : List SlP} (h : SlicesP w v ss) : ss.length ≤ maxLen ∧ ∃ a c b o, v = .slice a ss.length c ∧ ss.length ≤ c ∧ (ss.length ≤ 0 ∨ 0 < ss.length ∧ a = some ⟨b, o, none⟩) ∧
    Hid (∀ k, k < ss.length → ∃ a n c ns, ss[k]? = some ((a, n, c), ns) ∧ w.cell? ⟨b, o + k, none⟩ = some (.slice a n c)) := by
  obtain ⟨_, h2, a, c, b, o, hv, hc, ha, hcell⟩ := h
  refine ⟨h2, a, c, b, o, hv, hc, ?_, fun k hk => ⟨ss[k].1.1, ss[k].1.2.1, ss[k].1.2.2, ss[k].2, by simp [hk], hcell k _ (by simp [hk, slVP])⟩⟩
  rcases Nat.eq_zero_or_pos ss.length with h | h
  · exact .inl (by omega)
  · exact .inr ⟨h, ha h⟩

theorem points_oneCell (ns : List Pt) : ∀ u ∈ cellsP ns, u.oneCell' = true := by
  intro u hu
  simp only [cellsP, List.mem_flatMap, encP, List.mem_cons, List.not_mem_nil, or_false] at hu
  obtain ⟨n, _, rfl | rfl | rfl⟩ := hu <;> rfl

/-- The source of an append: a list of nodes that lies in older memory, or beside the row. -/
theorem points_src {w : World} {b o : Nat} {ns : List Pt} (h : ∀ j q, (cellsP ns)[j]? = some q → w.cell? ⟨b, o + j, none⟩ = some q) : ∀ j q, (cellsP ns)[j]? = some q → w.cell? ((⟨b, o, none⟩ : Addr).add j) = some q := by
  intro j q hq
  rw [Addr.add_lit]
  exact h j q hq

set_option maxHeartbeats 1000000 in
set_option maxRecDepth 100000 in
theorem growP_any (n : Nat) (h0 : 0 < n) (hn : n ≤ 1000000) (w : World) :
    Calls Try.prog 147 #[.slice none 0 0, .int .i64 n] w fun e w' => ∃ v, e = .returned v ∧ w'.ownsRow w.heap.size 86 3 v 0 [] ∧ Below w.heap.size w w' := by
  obtain ⟨i0, hi, hz0, hz1, hz2⟩ := info_parts info_point
  have happ := Lib.run_append_nil_zeros (P := Try.prog) w 49 3 49 86 i0 (.agg #[.int .i64 0, .int .i64 0, .int .i64 0]) .i64 .i64 Try.underlying49 Try.underlying3 hi hz0 n (by omega) (by omega) (by omega) (by rw [hz2]; omega)
  generalize hcap : grownCap w n 0 86 = cap2 at happ
  have hcapge : n ≤ cap2 := by rw [← hcap]; exact grownCap_ge w _ 0 86
  have hcaple : cap2 ≤ maxLen := by rw [← hcap]; exact grownCap_le_maxLen w _ 0 86 (by unfold maxLen; omega)
  generalize hZ : (Builtin.zeroCells (Value.agg #[.int .i64 0, .int .i64 0, .int .i64 0]).cells n ++ Builtin.zeroCells (Value.agg #[.int .i64 0, .int .i64 0, .int .i64 0]).cells (cap2 - n)) = Z at happ
  have hZs : Z.size = cap2 * 3 := by
    rw [← hZ]
    simp only [Array.size_append, size_zeroCells]
    rw [show (Value.agg #[.int .i64 0, .int .i64 0, .int .i64 0]).cells.size = 3 from rfl, ← Nat.add_mul]
    rw [Nat.add_sub_cancel' hcapge]
  have hcm := hcaple
  unfold maxLen at hcm
  have hcaple := Lib.hid hcaple
  have hZs := Lib.hid hZs
  clear hcap hZ hi hz0 hz1 hz2
  replace happ := happ
  go_enter Try.func147, Try.ntmps147
  go_wp2_with (at_builtin; refine Lib.wpList_append_run _ rfl _ _ _ _ rfl _ _ rfl rfl _ _ happ ?_)
  go_ret
  refine ⟨_, rfl, ⟨by simp, .inr ⟨w.heap.size, cap2, Z, rfl, Nat.le_refl _, heap_alloc_new w.drew _, Nat.zero_le _, hcaple.out, hZs.out, by simp⟩⟩, Below.alloc (Below.drew (Below.refl _ _)) (Nat.le_refl _) _⟩

/-- All nodes of a list of lists. -/
def catP (ss : List SlP) : List Pt := ss.flatMap (·.2)
theorem catP_succ {ss : List SlP} {k : Nat} {s : SlP} (h : ss[k]? = some s) : catP (ss.take (k + 1)) = catP (ss.take k) ++ s.2 := by
  have e : ss.take (k + 1) = ss.take k ++ [s] := by rw [List.take_add_one, h]; rfl
  rw [e]
  simp [catP, List.flatMap_append]
theorem catP_le (ss : List SlP) (k : Nat) : (catP (ss.take k)).length ≤ (catP ss).length := by
  have : catP ss = catP (ss.take k) ++ catP (ss.drop k) := by
    unfold catP
    rw [← List.flatMap_append, List.take_append_drop]
  rw [this, List.length_append]
  omega

theorem itemsP_opened {w : World} {v : Value} {ss : List SlP} (h : SlicesP w v ss) (hs : ∀ s ∈ ss, Points w (slVP s) s.2 ∧ 0 < s.2.length) : ss.length ≤ maxLen ∧ ∃ a c b o, v = .slice a ss.length c ∧ ss.length ≤ c ∧ (ss.length ≤ 0 ∨ 0 < ss.length ∧ a = some ⟨b, o, none⟩) ∧
    Hid (∀ k, k < ss.length → ∃ m b' o' c' xs, w.cell? ⟨b, o + k, none⟩ = some (.slice (some ⟨b', o', none⟩) m c') ∧ 0 < m ∧ m ≤ c' ∧ (catP (ss.take k)).length + m ≤ (catP ss).length ∧ (catP (ss.take (k + 1))).length = (catP (ss.take k)).length + m ∧ Hid (xs.length = m ∧ catP (ss.take (k + 1)) = catP (ss.take k) ++ xs ∧ ∀ j q, (cellsP xs)[j]? = some q → w.cell? ⟨b', o' + j, none⟩ = some q)) := by
  obtain ⟨hm, a, c, b, o, hv, hc, h0, hcell⟩ := h.opened
  refine ⟨hm, a, c, b, o, hv, hc, h0, fun k hk => ?_⟩
  obtain ⟨xa, xn, xc, xs, hx, hcx⟩ := hcell.out k hk
  obtain ⟨hn, hp⟩ := hs _ (List.mem_of_getElem? hx)
  obtain ⟨c', b', o', he, hc', _, hq⟩ := hn.raw hp
  simp only [slVP, Value.slice.injEq] at he hp hc'
  obtain ⟨rfl, rfl, rfl⟩ := he
  have h1 := catP_succ hx
  have h2 := catP_le ss (k + 1)
  have h3 := congrArg List.length h1
  rw [List.length_append] at h3
  simp only at h1 h3
  exact ⟨_, b', o', xc, xs, hcx, hp, hc', by omega, h3, rfl, h1, hq.out⟩

set_option maxHeartbeats 2000000 in
theorem concatP_any (v : Value) (ss : List SlP) (w : World) (h : SlicesP w v ss) (hs : ∀ s ∈ ss, Points w (slVP s) s.2 ∧ 0 < s.2.length) (hp : 0 < (catP ss).length) (hn : (catP ss).length ≤ 1000000) :
    Calls Try.prog 141 #[v] w fun e w' => ∃ v', e = .returned v' ∧ w'.ownsRow w.heap.size 86 3 v' (catP ss).length (cellsP (catP ss)) ∧ Below w.heap.size w w' := by
  obtain ⟨i0, hi, hz0, hz1, hz2⟩ := info_parts info_point
  have hI := Lib.hid (And.intro hi (And.intro hz0 (And.intro hz1 hz2)))
  clear hi hz0 hz1 hz2
  obtain ⟨hm, a, c, b, o, rfl, hc, h0, hcell⟩ := itemsP_opened h hs
  unfold maxLen at hm
  have hle := Lib.hid (catP_le ss)
  have hfin := Lib.hid (show catP (ss.take ss.length) = catP ss by rw [List.take_length])
  have hz : (catP (ss.take 0)).length = 0 := rfl
  clear h hs
  generalize hT : (catP ss).length = T at *
  have hT := Lib.hid hT
  rcases h0 with h0 | ⟨h0, rfl⟩
  · exfalso
    have h1 := hfin.out
    rw [show ss.length = 0 by omega] at h1
    have h2 := congrArg List.length h1
    rw [hz, hT.out] at h2
    omega
  · go_enter Try.func141, Try.ntmps141
    go_wp2_with fail
    go_loop [3, 11] (fun s i => ∃ (k t : Nat), k ≤ ss.length ∧ i = .int .i64 k ∧ s = .int .i64 t ∧ t ≤ T ∧ Hid ((catP (ss.take k)).length = t)) (fun _ i => ss.length - (intOf i).toNat)
    case atStart => exact ⟨0, 0, Nat.zero_le _, rfl, rfl, Nat.zero_le _, hz⟩
    case round =>
      obtain ⟨k, t, hk, rfl, rfl, ht, hkt⟩ := hrel
      by_cases hlt : k < ss.length
      · obtain ⟨m, b', o', c', xs, hcx, hm0, hmc, hm1, hm2, hxs⟩ := hcell.out k hlt
        rw [hkt.out] at hm1 hm2
        have hm2 := Lib.hid hm2
        go_wp2_with fail
        go_round
        case rel => exact ⟨k + 1, t + m, by omega, by go_num, by go_num, by omega, hm2.out⟩
        case measure => simp [intOf]; omega
      · obtain rfl : k = ss.length := by omega
        have htT : T = t := by have h1 := hkt.out; rw [hfin.out, hT.out] at h1; omega
        subst htT
        clear hkt
        go_wp2_with fail
        refine (growP_any _ hp hn _).mono ?_
        rintro e w1 ⟨v1, rfl, ho1, hb1⟩
        go_wp2_with fail
        go_loopw [6, 27] (fun v i wr => ∃ (k t : Nat), k ≤ ss.length ∧ i = .int .i64 k ∧ Hid ((catP (ss.take k)).length = t) ∧ wr.ownsRow w.heap.size 86 3 v t (cellsP (catP (ss.take k))) ∧ Below w.heap.size w wr) (fun _ i _ => ss.length - (intOf i).toNat)
        case atStart => exact ⟨0, 0, Nat.zero_le _, rfl, hz, ho1, hb1⟩
        case round =>
          obtain ⟨k, t, hk, rfl, hkt, ho, hb⟩ := hrel
          by_cases hlt : k < ss.length
          · obtain ⟨m, b', o', c', xs, hcx, hm0, hmc, hm1, hm2, hxs⟩ := hcell.out k hlt
            rw [hkt.out] at hm1 hm2
            have hm2 := Lib.hid hm2
            have hcx := (hb.cell (p := ⟨b, o + k, none⟩) (World.block_lt_of_cell? w _ hcx)).trans hcx
            have hlen := Lib.hid (show (cellsP xs).length = m * 3 by rw [cellsP_length, hxs.out.1])
            have hsrc := Lib.hid (points_src (cells_below hxs.out.2.2 hb (Nat.le_refl _)))
            have hone := Lib.hid (points_oneCell xs)
            have happ := Lib.hid hxs.out.2.1
            have hs := hb.size
            have ho := Lib.hid ho
            go_wp2_with (at_builtin; refine wpList_append_own _ rfl _ _ 49 rfl w.heap.size 86 i0 (.agg #[.int .i64 0, .int .i64 0, .int .i64 0]) 3 24 Try.underlying49 hI.out.1 hI.out.2.1 hI.out.2.2.1 hI.out.2.2.2 rfl (by decide) _ _ _ rfl ho.out ⟨b', o', none⟩ m c' (cellsP xs) rfl hlen.out hsrc.out hone.out (by unfold maxLen; omega) (by omega) (by omega) ?_; intro v' w1 hown' hgrow _)
            go_roundw
            case rel =>
              refine ⟨k + 1, t + m, by omega, by go_num, hm2.out, ?_, hb.grown hgrow (by omega) (fun j hj => (ho.out.lt j hj).1)⟩
              rw [happ.out, cellsP_append]
              exact hown'
            case measure => simp [intOf]; omega
          · obtain rfl : k = ss.length := by omega
            have ho := Lib.hid ho
            have htT : t = T := by have h1 := hkt.out; rw [hfin.out, hT.out] at h1; omega
            go_wp2_with fail
            go_ret
            refine ⟨_, rfl, ?_, hb⟩
            have h1 := ho.out
            rw [hfin.out, htT] at h1
            exact h1
end Go.Proofs.Ytadinbjhpbomkaa
