/- Substitution in a formula, of the program. -/
import Derived.Test.YtdpnkojchimmfaaQBSubst

namespace Go.Proofs.Ytdpnkojchimmfaa
open Go.RowKit

set_option maxHeartbeats 2000000 in
theorem withImages1_any (ib : Nat) (v vi : Value) (ns : List Nd) (Is : List (List Nd)) (w : World) (h : Nodes w v ns) (hn : ns.length ≤ 40) (hp : 0 < ns.length) (hg : ns.all nodeB = true) (hci0 : w.cell? ⟨ib, 0, none⟩ = some vi) (hI : Fs w vi Is) (h6 : Is.length = 6) (hb0 : ∀ I ∈ Is, 0 < I.length ∧ I.length ≤ 1000) :
    Calls Try.prog 89 #[v, .pointer (some ⟨ib, 0, none⟩)] w fun e w' => ∃ v', e = .returned v' ∧ w'.ownsRow w.heap.size 41 2 v' (subL Is ns).length (cellsN (subL Is ns)) ∧ Below w.heap.size w w' := by
  obtain ⟨i0, hi, hz0, hz1, hz2⟩ := info_parts info_node
  obtain ⟨hm, a, c, b, o, rfl, hc, h0, hcell⟩ := h.opened
  obtain rfl : a = some ⟨b, o, none⟩ := by rcases h0 with h0 | ⟨_, h0⟩; · omega
                                           exact h0
  obtain ⟨bi, oi, ci, rfl, hci, hget⟩ := hI.get h6
  have hsl := Lib.hid (fun k => subL_len Is (fun I hI => (hb0 I hI).2) (ns.take k))
  have hbI := Lib.hid hb0
  have hgn := Lib.hid hg
  have h6h := Lib.hid h6
  clear h h0 hm hI hb0 hg h6
  go_enter Try.func89, Try.ntmps89
  go_wp2_with fail
  go_loopw [4, 9] (fun z i wr => ∃ k : Nat, k ≤ ns.length ∧ i = .int .i64 k ∧ Hid (wr.ownsRow w.heap.size 41 2 z (subL Is (ns.take k)).length (cellsN (subL Is (ns.take k)))) ∧ Below w.heap.size w wr) (fun _ i _ => ns.length - (intOf i).toNat)
  case atStart => exact ⟨0, Nat.zero_le _, rfl, World.ownsRow_nil _ _ _ _, Below.refl _ _⟩
  case round =>
    obtain ⟨k, hk, rfl, ho, hb⟩ := hrel
    by_cases hlt : k < ns.length
    · obtain ⟨x, y, hx, hcx, hcy⟩ := hcell.out k hlt
      have lb := World.block_lt_of_cell? w _ hcx
      have hcx := (hb.cell (p := ⟨b, o + k * 2, none⟩) lb).trans hcx
      have hcy := (hb.cell (p := ⟨b, o + k * 2 + 1, none⟩) lb).trans hcy
      have hs := Lib.hid (subL_succ Is ns k x y hx)
      have hl1 : (subL Is (ns.take k)).length ≤ 40000 := by
        have h1 := hsl.out k
        have h2 : (ns.take k).length ≤ 40 := by rw [List.length_take]; omega
        have h3 := Nat.mul_le_mul_right 1000 h2
        omega
      have hnb := Lib.hid (List.all_eq_true.1 hgn.out (x, y) (List.mem_of_getElem? hx))
      clear hx lb
      have hbs := hb.size
      have hcv := (hb.cell (p := ⟨ib, 0, none⟩) (World.block_lt_of_cell? w _ hci0)).trans hci0
      have hbW := Lib.hid (hb.alloc hbs (.cells #[.int .i64 x, .int .i64 y] 41))
      have hoW := Lib.hid (ho.out.alloc (.cells #[.int .i64 x, .int .i64 y] 41))
      have hbs2 : w.heap.size ≤ (wr.alloc (.cells #[.int .i64 x, .int .i64 y] 41)).heap.size := by simp; omega
      generalize subL Is (ns.take k) = D at *
      by_cases hx0 : x = 0
      · subst hx0
        have hy := hnb.out
        unfold nodeB at hy
        simp at hy
        obtain ⟨Y, rfl⟩ : ∃ Y : Nat, y = (Y : Int) := ⟨y.toNat, by omega⟩
        have hY6 : (Y : Int) < 6 := by omega
        obtain ⟨vI, I, hIi, hcI, hnI⟩ := hget.out Y (by omega)
        have lI := World.block_lt_of_cell? w _ hcI
        have lv := World.block_lt_of_cell? w _ hci0
        have hcI := (hbW.out.cell (p := ⟨bi, oi + Y, none⟩) lI).trans hcI
        have hcv := (hbW.out.cell (p := ⟨ib, 0, none⟩) lv).trans hci0
        clear lI lv
        obtain ⟨hI0, hI1⟩ := hbI.out I (List.mem_of_getElem? hIi)
        obtain ⟨c', b', o', rfl, hcc', hcm', hcell'⟩ := hnI.raw hI0
        have hsub := Lib.hid (show subN Is (0, (Y : Int)) = I by simp [subN, List.getD, hIi])
        have hsrc := Lib.hid (nodes_src (cells_below hcell'.out hbW.out (Nat.le_refl _)))
        have hlenI := Lib.hid (cellsN_length I)
        have hone := Lib.hid (nodes_oneCell I)
        clear hy hIi hcell' hnI hcm'
        generalize hmI : I.length = mI at *
        have hmI := Lib.hid hmI
        go_wp2_with (at_builtin; refine wpList_append_own _ rfl _ _ 27 rfl w.heap.size 41 i0 (.agg #[.int .i64 0, .int .i64 0]) 2 16 Try.underlying27 hi hz0 hz1 hz2 rfl (by decide) _ _ _ rfl hoW.out ⟨b', o', none⟩ mI c' (cellsN I) rfl hlenI.out hsrc.out hone.out (by unfold maxLen; omega) (by omega) hbs2 ?_; intro v1 w1 hown1 hgrow1 _)
        go_roundw
        case rel =>
          refine ⟨k + 1, by omega, by go_num, ?_, hbW.out.grown hgrow1 hbs2 (fun j hj => (hoW.out.lt j hj).1)⟩
          show World.ownsRow _ _ _ _ _ _ _
          rw [hs.out, hsub.out, cellsN_append, List.length_append, hmI.out]
          exact hown1
        case measure => simp [intOf]; omega
      · have hxf : (x == 0) = false := by rw [beq_eq_false_iff_ne]; exact hx0
        have hsub := Lib.hid (show subN Is (x, y) = [(x, y)] by simp [subN, hx0])
        have hoA := Lib.hid (hoW.out.alloc (.cells #[.int .i64 x, .int .i64 y] 41))
        have hnew := Lib.hid (show ∀ j q, (cellsN [(x, y)])[j]? = some q → ((wr.alloc (.cells #[.int .i64 x, .int .i64 y] 41)).alloc (.cells #[.int .i64 x, .int .i64 y] 41)).cell? ((⟨wr.heap.size + 1, 0, none⟩ : Addr).add j) = some q by
          have h9 := news_two (wr.alloc (.cells #[.int .i64 x, .int .i64 y] 41)) x y 41
          have h8 : (wr.alloc (.cells #[.int .i64 x, .int .i64 y] 41)).heap.size = wr.heap.size + 1 := by simp
          rw [h8] at h9
          exact h9)
        have hbs3 : w.heap.size ≤ ((wr.alloc (.cells #[.int .i64 x, .int .i64 y] 41)).alloc (.cells #[.int .i64 x, .int .i64 y] 41)).heap.size := by simp; omega
        have hone := Lib.hid (nodes_oneCell [(x, y)])
        clear hx0
        go_wp2_with (at_builtin; refine wpList_append_own _ rfl _ _ 27 rfl w.heap.size 41 i0 (.agg #[.int .i64 0, .int .i64 0]) 2 16 Try.underlying27 hi hz0 hz1 hz2 rfl (by decide) _ _ _ rfl hoA.out ⟨wr.heap.size + 1, 0, none⟩ 1 1 (cellsN [(x, y)]) rfl rfl hnew.out hone.out (by unfold maxLen; omega) (by omega) hbs3 ?_; intro v1 w1 hown1 hgrow1 _)
        go_roundw
        case rel =>
          refine ⟨k + 1, by omega, by go_num, ?_, (hbW.out.alloc hbs2 _).grown hgrow1 hbs3 (fun j hj => (ho.out.lt j hj).1)⟩
          show World.ownsRow _ _ _ _ _ _ _
          rw [hs.out, hsub.out, cellsN_append, List.length_append]
          exact hown1
        case measure => simp [intOf]; omega
    · obtain rfl : k = ns.length := by omega
      rw [List.take_length] at ho
      go_wp2_with fail
      go_ret
      exact ⟨_, rfl, ho.out, hb⟩
end Go.Proofs.Ytdpnkojchimmfaa
