/- Walks of what joins lists of nodes: slices.Grow, slices.Concat, and the reference's own appends. -/
import Derived.Test.YtbpkogknmhklbaaLists
import Derived.Test.YtbpkogknmhklbaaParts
import Derived.Lib.AppendZeros
namespace Go.Proofs.Ytbpkogknmhklbaa
open Go.RowKit

theorem nodes_oneCell (ns : List Nd) : ∀ u ∈ cellsN ns, u.oneCell' = true := by
  intro u hu
  simp only [cellsN, List.mem_flatMap, encN, List.mem_cons, List.not_mem_nil, or_false] at hu
  obtain ⟨n, _, rfl | rfl⟩ := hu <;> rfl

/-- The source of an append: a list of nodes that lies in older memory, or beside the row. -/
theorem nodes_src {w : World} {b o : Nat} {ns : List Nd} (h : ∀ j q, (cellsN ns)[j]? = some q → w.cell? ⟨b, o + j, none⟩ = some q) : ∀ j q, (cellsN ns)[j]? = some q → w.cell? ((⟨b, o, none⟩ : Addr).add j) = some q := by
  intro j q hq
  rw [Addr.add_lit]
  exact h j q hq

theorem cells_below {w w' : World} {b o : Nat} {cs : List Value} {K : Nat} (h : ∀ j q, cs[j]? = some q → w.cell? ⟨b, o + j, none⟩ = some q) (hb : Below K w w') (hk : w.heap.size ≤ K) : ∀ j q, cs[j]? = some q → w'.cell? ⟨b, o + j, none⟩ = some q := by
  intro j q hq
  have h3 := h j q hq
  have hlt : b < w.heap.size := World.block_lt_of_cell? w _ h3
  exact (hb.cell (p := ⟨b, o + j, none⟩) (by show b < K; omega)).trans h3

theorem l02Pre_any (k : Int) (v : Value) (ns : List Nd) (w : World) (h : Nodes w v ns) (hp : 0 < ns.length) (hn : ns.length ≤ 1000000) :
    Calls Try.prog 54 #[.int .i64 k, v] w fun e w' => ∃ v', e = .returned v' ∧ w'.ownsRow w.heap.size 51 2 v' ((k, 0) :: ns).length (cellsN ((k, 0) :: ns)) ∧ Below w.heap.size w w' := by
  obtain ⟨i0, hi, hz0, hz1, hz2⟩ := info_parts info_node
  obtain ⟨c, b, o, rfl, hc, hcm, hcell⟩ := h.raw hp
  have hlen := Lib.hid (cellsN_length ns)
  have hl0 := Lib.hid (World.ownsRow_lit (e := 51) (base := w.heap.size) (size := 2) w #[.int .i64 k, .int .i64 0] 1 (Nat.le_refl _) (by simp [maxLen]) rfl)
  have hba := Lib.hid ((Below.refl w.heap.size w).alloc (Nat.le_refl _) (.cells #[.int .i64 k, .int .i64 0] 51))
  have hsrc := Lib.hid (nodes_src (cells_below hcell.out hba.out (Nat.le_refl _)))
  have hone := Lib.hid (nodes_oneCell ns)
  clear h
  generalize hm : ns.length = m at *
  have hm := Lib.hid hm
  go_enter Try.func54, Try.ntmps54
  go_wp2_with (at_builtin; refine wpList_append_own _ rfl _ _ 25 rfl w.heap.size 51 i0 (.agg #[.int .i64 0, .int .i64 0]) 2 16 Try.underlying25 hi hz0 hz1 hz2 rfl (by decide) _ _ _ rfl hl0.out ⟨b, o, none⟩ m c (cellsN ns) rfl hlen.out hsrc.out hone.out (by unfold maxLen; omega) (by omega) (by simp) ?_; intro v' w1 hown' hgrow _)
  go_ret
  refine ⟨v', rfl, ?_, ?_⟩
  · rw [show m + 1 = 1 + m by omega]
    exact hown'
  · exact hba.out.grown hgrow (by simp) (fun j hj => (hl0.out.lt j hj).1)

set_option maxHeartbeats 1000000 in
theorem growN_any (n : Nat) (h0 : 0 < n) (hn : n ≤ 1000000) (w : World) :
    Calls Try.prog 98 #[.slice none 0 0, .int .i64 n] w fun e w' => ∃ v, e = .returned v ∧ w'.ownsRow w.heap.size 51 2 v 0 [] ∧ Below w.heap.size w w' := by
  obtain ⟨i0, hi, hz0, hz1, hz2⟩ := info_parts info_node
  have happ := Lib.run_append_nil_zeros (P := Try.prog) w 25 3 25 51 i0 (.agg #[.int .i64 0, .int .i64 0]) .i64 .i64 Try.underlying25 Try.underlying3 hi hz0 n (by omega) (by omega) (by omega) (by rw [hz2]; omega)
  generalize hcap : grownCap w n 0 51 = cap2 at happ
  have hcapge : n ≤ cap2 := by rw [← hcap]; exact grownCap_ge w _ 0 51
  have hcaple : cap2 ≤ maxLen := by rw [← hcap]; exact grownCap_le_maxLen w _ 0 51 (by unfold maxLen; omega)
  generalize hZ : (Builtin.zeroCells (Value.agg #[.int .i64 0, .int .i64 0]).cells n ++ Builtin.zeroCells (Value.agg #[.int .i64 0, .int .i64 0]).cells (cap2 - n)) = Z at happ
  have hZs : Z.size = cap2 * 2 := by
    rw [← hZ]
    simp only [Array.size_append, size_zeroCells]
    rw [show (Value.agg #[.int .i64 0, .int .i64 0]).cells.size = 2 from rfl, ← Nat.add_mul]
    congr 1
    omega
  have hcm := hcaple
  unfold maxLen at hcm
  have hcaple := Lib.hid hcaple
  have hZs := Lib.hid hZs
  clear hcap hZ
  go_enter Try.func98, Try.ntmps98
  go_wp2_with (at_builtin; refine Lib.wpList_append_run _ rfl _ _ _ _ rfl _ _ rfl rfl _ _ happ ?_)
  go_ret
  refine ⟨_, rfl, ⟨by simp, .inr ⟨w.heap.size, cap2, Z, rfl, Nat.le_refl _, heap_alloc_new w.drew _, Nat.zero_le _, hcaple.out, hZs.out, by simp⟩⟩, Below.alloc (Below.drew (Below.refl _ _)) (Nat.le_refl _) _⟩

/-- All nodes of a list of lists. -/
def catL (ss : List Sl) : List Nd := ss.flatMap (·.2)
theorem catL_succ {ss : List Sl} {k : Nat} {s : Sl} (h : ss[k]? = some s) : catL (ss.take (k + 1)) = catL (ss.take k) ++ s.2 := by
  have e : ss.take (k + 1) = ss.take k ++ [s] := by rw [List.take_add_one, h]; rfl
  rw [e]
  simp [catL, List.flatMap_append]
theorem catL_le (ss : List Sl) (k : Nat) : (catL (ss.take k)).length ≤ (catL ss).length := by
  have : catL ss = catL (ss.take k) ++ catL (ss.drop k) := by
    unfold catL
    rw [← List.flatMap_append, List.take_append_drop]
  rw [this, List.length_append]
  omega

theorem items_opened {w : World} {v : Value} {ss : List Sl} (h : Slices w v ss) (hs : ∀ s ∈ ss, Nodes w (slV s) s.2 ∧ 0 < s.2.length) : ss.length ≤ maxLen ∧ ∃ a c b o, v = .slice a ss.length c ∧ ss.length ≤ c ∧ (ss.length ≤ 0 ∨ 0 < ss.length ∧ a = some ⟨b, o, none⟩) ∧
    Hid (∀ k, k < ss.length → ∃ m b' o' c' xs, w.cell? ⟨b, o + k, none⟩ = some (.slice (some ⟨b', o', none⟩) m c') ∧ 0 < m ∧ m ≤ c' ∧ (catL (ss.take k)).length + m ≤ (catL ss).length ∧ (catL (ss.take (k + 1))).length = (catL (ss.take k)).length + m ∧ Hid (xs.length = m ∧ catL (ss.take (k + 1)) = catL (ss.take k) ++ xs ∧ ∀ j q, (cellsN xs)[j]? = some q → w.cell? ⟨b', o' + j, none⟩ = some q)) := by
  obtain ⟨hm, a, c, b, o, hv, hc, h0, hcell⟩ := h.opened
  refine ⟨hm, a, c, b, o, hv, hc, h0, fun k hk => ?_⟩
  obtain ⟨xa, xn, xc, xs, hx, hcx⟩ := hcell.out k hk
  obtain ⟨hn, hp⟩ := hs _ (List.mem_of_getElem? hx)
  obtain ⟨c', b', o', he, hc', _, hq⟩ := hn.raw hp
  simp only [slV, Value.slice.injEq] at he hp hc'
  obtain ⟨rfl, rfl, rfl⟩ := he
  have h1 := catL_succ hx
  have h2 := catL_le ss (k + 1)
  have h3 := congrArg List.length h1
  rw [List.length_append] at h3
  simp only at h1 h3
  exact ⟨_, b', o', xc, xs, hcx, hp, hc', by omega, h3, rfl, h1, hq.out⟩

set_option maxHeartbeats 2000000 in
theorem concat_any (v : Value) (ss : List Sl) (w : World) (h : Slices w v ss) (hs : ∀ s ∈ ss, Nodes w (slV s) s.2 ∧ 0 < s.2.length) (hp : 0 < (catL ss).length) (hn : (catL ss).length ≤ 1000000) :
    Calls Try.prog 85 #[v] w fun e w' => ∃ v', e = .returned v' ∧ w'.ownsRow w.heap.size 51 2 v' (catL ss).length (cellsN (catL ss)) ∧ Below w.heap.size w w' := by
  obtain ⟨i0, hi, hz0, hz1, hz2⟩ := info_parts info_node
  obtain ⟨hm, a, c, b, o, rfl, hc, h0, hcell⟩ := items_opened h hs
  unfold maxLen at hm
  have hle := Lib.hid (catL_le ss)
  have hfin := Lib.hid (show catL (ss.take ss.length) = catL ss by rw [List.take_length])
  have hz : (catL (ss.take 0)).length = 0 := rfl
  clear h hs
  generalize hT : (catL ss).length = T at *
  have hT := Lib.hid hT
  rcases h0 with h0 | ⟨h0, rfl⟩
  · exfalso
    have h1 := hfin.out
    rw [show ss.length = 0 by omega] at h1
    have h2 := congrArg List.length h1
    rw [hz, hT.out] at h2
    omega
  · go_enter Try.func85, Try.ntmps85
    go_wp2_with fail
    go_loop [3, 11] (fun s i => ∃ (k t : Nat), k ≤ ss.length ∧ i = .int .i64 k ∧ s = .int .i64 t ∧ t ≤ T ∧ Hid ((catL (ss.take k)).length = t)) (fun _ i => ss.length - (intOf i).toNat)
    case atStart => exact ⟨0, 0, Nat.zero_le _, rfl, rfl, Nat.zero_le _, hz⟩
    case round =>
      obtain ⟨k, t, hk, rfl, rfl, ht, hkt⟩ := hrel
      by_cases hlt : k < ss.length
      · obtain ⟨m, b', o', c', xs, hcx, hm0, hmc, hm1, hm2, hxs⟩ := hcell.out k hlt
        rw [hkt.out] at hm1 hm2
        have hm2 := Lib.hid hm2
        go_wp2_with fail
        go_round
        case rel => exact ⟨k + 1, t + m, by omega, by go_num, by go_num, by omega, hm2.out⟩
        case measure => simp [intOf]; omega
      · obtain rfl : k = ss.length := by omega
        have htT : T = t := by have h1 := hkt.out; rw [hfin.out, hT.out] at h1; omega
        subst htT
        clear hkt
        go_wp2_with fail
        refine (growN_any _ hp hn _).mono ?_
        rintro e w1 ⟨v1, rfl, ho1, hb1⟩
        go_wp2_with fail
        go_loopw [6, 27] (fun v i wr => ∃ (k t : Nat), k ≤ ss.length ∧ i = .int .i64 k ∧ Hid ((catL (ss.take k)).length = t) ∧ wr.ownsRow w.heap.size 51 2 v t (cellsN (catL (ss.take k))) ∧ Below w.heap.size w wr) (fun _ i _ => ss.length - (intOf i).toNat)
        case atStart => exact ⟨0, 0, Nat.zero_le _, rfl, hz, ho1, hb1⟩
        case round =>
          obtain ⟨k, t, hk, rfl, hkt, ho, hb⟩ := hrel
          by_cases hlt : k < ss.length
          · obtain ⟨m, b', o', c', xs, hcx, hm0, hmc, hm1, hm2, hxs⟩ := hcell.out k hlt
            rw [hkt.out] at hm1 hm2
            have hm2 := Lib.hid hm2
            have hcx := (hb.cell (p := ⟨b, o + k, none⟩) (World.block_lt_of_cell? w _ hcx)).trans hcx
            have hlen := Lib.hid (show (cellsN xs).length = m * 2 by rw [cellsN_length, hxs.out.1])
            have hsrc := Lib.hid (nodes_src (cells_below hxs.out.2.2 hb (Nat.le_refl _)))
            have hone := Lib.hid (nodes_oneCell xs)
            have happ := Lib.hid hxs.out.2.1
            have hs := hb.size
            have ho := Lib.hid ho
            go_wp2_with (at_builtin; refine wpList_append_own _ rfl _ _ 25 rfl w.heap.size 51 i0 (.agg #[.int .i64 0, .int .i64 0]) 2 16 Try.underlying25 hi hz0 hz1 hz2 rfl (by decide) _ _ _ rfl ho.out ⟨b', o', none⟩ m c' (cellsN xs) rfl hlen.out hsrc.out hone.out (by unfold maxLen; omega) (by omega) (by omega) ?_; intro v' w1 hown' hgrow _)
            go_roundw
            case rel =>
              refine ⟨k + 1, t + m, by omega, by go_num, hm2.out, ?_, hb.grown hgrow (by omega) (fun j hj => (ho.out.lt j hj).1)⟩
              rw [happ.out, cellsN_append]
              exact hown'
            case measure => simp [intOf]; omega
          · obtain rfl : k = ss.length := by omega
            have ho := Lib.hid ho
            have htT : t = T := by have h1 := hkt.out; rw [hfin.out, hT.out] at h1; omega
            go_wp2_with fail
            go_ret
            refine ⟨_, rfl, ?_, hb⟩
            have h1 := ho.out
            rw [hfin.out, htT] at h1
            exact h1
end Go.Proofs.Ytbpkogknmhklbaa
