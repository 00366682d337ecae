/- Substitution in a formula. -/
import Derived.Test.YtdpnkojchimmfaaQBConcatM
import Derived.Deep.AppendLies

namespace Go.Proofs.Ytdpnkojchimmfaa
open Go.RowKit

/-- The image of a formula. -/
def subN (Is : List (List Nd)) (n : Nd) : List Nd := if n.1 = 0 then Is.getD n.2.toNat [] else [n]
def subL (Is : List (List Nd)) (ns : List Nd) : List Nd := ns.flatMap (subN Is)
theorem subL_succ (Is : List (List Nd)) (ns : List Nd) (k : Nat) (x y : Int) (hx : ns[k]? = some (x, y)) : subL Is (ns.take (k + 1)) = subL Is (ns.take k) ++ subN Is (x, y) := by
  have e : ns.take (k + 1) = ns.take k ++ [(x, y)] := by rw [List.take_add_one, hx]; rfl
  rw [e]; simp [subL]
theorem subL_len (Is : List (List Nd)) (hI : ∀ I ∈ Is, I.length ≤ 1000) (ns : List Nd) : (subL Is ns).length ≤ ns.length * 1000 := by
  induction ns with
  | nil => simp [subL]
  | cons n ns ih =>
    have h : (subN Is n).length ≤ 1000 := by
      unfold subN
      split
      · rw [List.getD_eq_getElem?_getD]
        cases h : Is[n.2.toNat]? with
        | none => simp
        | some I => exact hI I (List.mem_of_getElem? h)
      · simp
    have e : subL Is (n :: ns) = subN Is n ++ subL Is ns := by simp [subL]
    rw [e, List.length_append, List.length_cons]
    omega

theorem Fs.get {w : World} {v : Value} {Is : List (List Nd)} (h : Fs w v Is) (h6 : Is.length = 6) : ∃ b o c, v = .slice (some ⟨b, o, none⟩) 6 c ∧ 6 ≤ c ∧ Hid (∀ j : Nat, j < 6 → ∃ vI I, Is[j]? = some I ∧ w.cell? ⟨b, o + j, none⟩ = some vI ∧ Nodes w vI I) := by
  obtain ⟨ss, h1, h2, h3⟩ := h
  have hl : ss.length = 6 := by have := congrArg List.length h3; simp at this; omega
  obtain ⟨_, _, a, c, b, o, rfl, hc, ha, hcell⟩ := h1
  obtain rfl := ha (by omega)
  rw [hl] at hc ⊢
  refine ⟨b, o, c, rfl, hc, fun j hj => ?_⟩
  have hg : ss[j]? = some (ss[j]'(by omega)) := List.getElem?_eq_getElem _
  refine ⟨slV (ss[j]'(by omega)), (ss[j]'(by omega)).2, by rw [← h3, List.getElem?_map, hg]; rfl, ?_, h2 _ (List.getElem_mem _)⟩
  exact hcell j _ (by rw [List.getElem?_map, hg]; rfl)

theorem news_two (w : World) (x y : Int) (t : TypeId) : ∀ j q, (cellsN [(x, y)])[j]? = some q → (w.alloc (.cells #[.int .i64 x, .int .i64 y] t)).cell? ((⟨w.heap.size, 0, none⟩ : Addr).add j) = some q :=
  World.news_of_block (cs := #[.int .i64 x, .int .i64 y]) (t := t) (fr := (0, 0)) (by show (w.heap.push _)[w.heap.size]? = _; simp)

set_option maxHeartbeats 2000000 in
theorem l03Sub_any (v vi : Value) (ns : List Nd) (Is : List (List Nd)) (w : World) (h : Nodes w v ns) (hn : ns.length ≤ 40) (hp : 0 < ns.length) (hg : ns.all nodeB = true) (hI : Fs w vi Is) (h6 : Is.length = 6) (hb0 : ∀ I ∈ Is, 0 < I.length ∧ I.length ≤ 1000) :
    Calls Try.prog 47 #[v, vi] w fun e w' => ∃ v', e = .returned v' ∧ w'.ownsRow w.heap.size 41 2 v' (subL Is ns).length (cellsN (subL Is ns)) ∧ Below w.heap.size w w' := by
  obtain ⟨i0, hi, hz0, hz1, hz2⟩ := info_parts info_node
  obtain ⟨hm, a, c, b, o, rfl, hc, h0, hcell⟩ := h.opened
  obtain rfl : a = some ⟨b, o, none⟩ := by rcases h0 with h0 | ⟨_, h0⟩; · omega
                                           exact h0
  obtain ⟨bi, oi, ci, rfl, hci, hget⟩ := hI.get h6
  have hsl := Lib.hid (fun k => subL_len Is (fun I hI => (hb0 I hI).2) (ns.take k))
  have hbI := Lib.hid hb0
  have hgn := Lib.hid hg
  have h6h := Lib.hid h6
  clear h h0 hm hI hb0 hg h6
  go_enter Try.func47, Try.ntmps47
  go_wp2_with fail
  go_loopw [5, 6] (fun z i wr => ∃ k : Nat, k ≤ ns.length ∧ i = .int .i64 k ∧ Hid (wr.ownsRow w.heap.size 41 2 z (subL Is (ns.take k)).length (cellsN (subL Is (ns.take k)))) ∧ Below w.heap.size w wr) (fun _ i _ => ns.length - (intOf i).toNat)
  case atStart => exact ⟨0, Nat.zero_le _, rfl, World.ownsRow_lit w #[] 0 (Nat.le_refl _) (by simp [maxLen]) rfl, (Below.refl _ _).alloc (Nat.le_refl _) _⟩
  case round =>
    obtain ⟨k, hk, rfl, ho, hb⟩ := hrel
    by_cases hlt : k < ns.length
    · obtain ⟨x, y, hx, hcx, hcy⟩ := hcell.out k hlt
      have lb := World.block_lt_of_cell? w _ hcx
      have hcx := (hb.cell (p := ⟨b, o + k * 2, none⟩) lb).trans hcx
      have hcy := (hb.cell (p := ⟨b, o + k * 2 + 1, none⟩) lb).trans hcy
      have hs := Lib.hid (subL_succ Is ns k x y hx)
      have hl1 : (subL Is (ns.take k)).length ≤ 40000 := by
        have h1 := hsl.out k
        have h2 : (ns.take k).length ≤ 40 := by rw [List.length_take]; omega
        have h3 := Nat.mul_le_mul_right 1000 h2
        omega
      have hnb := Lib.hid (List.all_eq_true.1 hgn.out (x, y) (List.mem_of_getElem? hx))
      clear hx lb
      have hbs := hb.size
      generalize subL Is (ns.take k) = D at *
      by_cases hx0 : x = 0
      · subst hx0
        have hy := hnb.out
        unfold nodeB at hy
        simp at hy
        obtain ⟨Y, rfl⟩ : ∃ Y : Nat, y = (Y : Int) := ⟨y.toNat, by omega⟩
        have hY6 : (Y : Int) < 6 := by omega
        obtain ⟨vI, I, hIi, hcI, hnI⟩ := hget.out Y (by omega)
        have hcI := (hb.cell (p := ⟨bi, oi + Y, none⟩) (World.block_lt_of_cell? w _ hcI)).trans hcI
        obtain ⟨hI0, hI1⟩ := hbI.out I (List.mem_of_getElem? hIi)
        obtain ⟨c', b', o', rfl, hcc', hcm', hcell'⟩ := hnI.raw hI0
        have hsub := Lib.hid (show subN Is (0, (Y : Int)) = I by simp [subN, List.getD, hIi])
        have hsrc := Lib.hid (nodes_src (cells_below hcell'.out hb (Nat.le_refl _)))
        have hlenI := Lib.hid (cellsN_length I)
        have hone := Lib.hid (nodes_oneCell I)
        clear hy hIi hcell' hnI hcm'
        generalize hmI : I.length = mI at *
        have hmI := Lib.hid hmI
        go_wp2_with (at_builtin; refine wpList_append_own _ rfl _ _ 27 rfl w.heap.size 41 i0 (.agg #[.int .i64 0, .int .i64 0]) 2 16 Try.underlying27 hi hz0 hz1 hz2 rfl (by decide) _ _ _ rfl ho.out ⟨b', o', none⟩ mI c' (cellsN I) rfl hlenI.out hsrc.out hone.out (by unfold maxLen; omega) (by omega) hbs ?_; intro v1 w1 hown1 hgrow1 _)
        go_roundw
        case rel =>
          refine ⟨k + 1, by omega, by go_num, ?_, hb.grown hgrow1 hbs (fun j hj => (ho.out.lt j hj).1)⟩
          show World.ownsRow _ _ _ _ _ _ _
          rw [hs.out, hsub.out, cellsN_append, List.length_append, hmI.out]
          exact hown1
        case measure => simp [intOf]; omega
      · have hxf : (x == 0) = false := by rw [beq_eq_false_iff_ne]; exact hx0
        have hsub := Lib.hid (show subN Is (x, y) = [(x, y)] by simp [subN, hx0])
        have hoA := Lib.hid (ho.out.alloc (.cells #[.int .i64 x, .int .i64 y] 41))
        have hnew := Lib.hid (news_two wr x y 41)
        have hone := Lib.hid (nodes_oneCell [(x, y)])
        clear hx0
        go_wp2_with (at_builtin; refine wpList_append_own _ rfl _ _ 27 rfl w.heap.size 41 i0 (.agg #[.int .i64 0, .int .i64 0]) 2 16 Try.underlying27 hi hz0 hz1 hz2 rfl (by decide) _ _ _ rfl hoA.out ⟨wr.heap.size, 0, none⟩ 1 1 (cellsN [(x, y)]) rfl rfl hnew.out hone.out (by unfold maxLen; omega) (by omega) (by simp; omega) ?_; intro v1 w1 hown1 hgrow1 _)
        go_roundw
        case rel =>
          refine ⟨k + 1, by omega, by go_num, ?_, (hb.alloc hbs _).grown hgrow1 (by simp; omega) (fun j hj => (ho.out.lt j hj).1)⟩
          show World.ownsRow _ _ _ _ _ _ _
          rw [hs.out, hsub.out, cellsN_append, List.length_append]
          exact hown1
        case measure => simp [intOf]; omega
    · obtain rfl : k = ns.length := by omega
      rw [List.take_length] at ho
      go_wp2_with fail
      go_ret
      exact ⟨_, rfl, ho.out, hb⟩
end Go.Proofs.Ytdpnkojchimmfaa
