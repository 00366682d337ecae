/- Walks of VariablePolarity, of the program. -/
import Derived.Test.YtbpkogknmhklbaaPolThree
import Derived.Laws.EntriesVeiled
namespace Go.Proofs.Ytbpkogknmhklbaa
open Go.RowKit

set_option maxHeartbeats 1000000 in
theorem polarities_any (t : Tr) (v : Value) (w : World) (hok : okT t) (h : Nodes w v (flat t)) (hn : (flat t).length ≤ 1000000) :
    Calls Try.prog 92 #[v] w fun e w' => ∃ v', e = .returned v' ∧ w'.ownsRow w.heap.size 2 1 v' (polT 1 t).length ((polT 1 t).map (Value.int .i64)) ∧ Below w.heap.size w w' := by
  have hin : inK w.heap.size v := by
    have hp := flat_pos t hok
    obtain ⟨c, b, o, rfl, hc, hcm, hcell⟩ := h.raw hp
    cases t with
    | nil => exact hok.elim
    | node b0 o0 n l r => exact World.block_lt_of_cell? w _ (node_head hcell.out).1
  have hv := Lib.hid h
  have hinh := Lib.hid hin
  clear h hin
  go_enter Try.func92, Try.ntmps92
  go_wp2_with fail
  refine (polWalk_any w.heap.size w.heap.size (w.heap.size + 1) t 1 v (.slice none 0 0) [] _ (.inl rfl) hok ?_ hinh.out ?_ (by simpa using hn)).mono ?_
  · exact nodes_inK hv.out hinh.out (((Below.refl w.heap.size w).alloc (Nat.le_refl _) _).alloc (by simp) _)
  · refine ⟨?_, ?_, ?_, World.ownsRow_nil _ _ _ _, fun k hk => by simp [Value.ownBlock] at hk, by omega, Nat.le_refl _, by simp; try omega⟩
    · simp [go_sem]
    · simp [go_sem]
    · rw [World.cell?_alloc_at _ _ _ _ (by simp)]; rfl
  rintro e w1 ⟨⟨u, rfl⟩, vo, hst, hstep⟩
  have hoc := hst.oc
  have hst := Lib.hid hst
  have hB := Lib.hid ((((Below.refl w.heap.size w).alloc (Nat.le_refl _) _).alloc (by simp) _).trans hstep.bel)
  clear hstep
  go_wp2_with fail
  go_ret
  refine ⟨_, rfl, ?_, hB.out⟩
  exact hst.out.own

set_option maxHeartbeats 1000000 in
theorem variablePolarity_any (u : Int) (v : Value) (ns : List Nd) (w : World) (h : Nodes w v ns) (hf : formB ns = true) :
    Calls Try.prog 70 #[v, .int .i64 u] w fun e w' => e = .returned (.int .i64 (sigT u ns)) ∧ Below w.heap.size w w' := by
  have hv := Lib.hid h
  obtain ⟨hp0, hp1⟩ : 0 < ns.length ∧ ns.length ≤ 40 := by simp only [formB, Bool.and_eq_true, decide_eq_true_eq] at hf; omega
  obtain ⟨hok, hfl⟩ := treeOf_spec hf
  have hpol := Lib.hid (polarities_any (treeOf ns) v w hok (by rw [hfl]; exact h) (by rw [hfl]; omega))
  have hone := Lib.hid (polT_one (treeOf ns) 1 (.inl rfl))
  have hqn : (polT 1 (treeOf ns)).length = ns.length := by rw [polT_len, hfl]
  have hsig := Lib.hid (show sigT u ns = sigU u ns (polT 1 (treeOf ns)) ns.length from rfl)
  clear hok hfl
  generalize polT 1 (treeOf ns) = qs at *
  obtain ⟨hm, a, c, b, o, rfl, hc, h0, hcell⟩ := h.opened
  clear h hm hf
  obtain rfl : a = some ⟨b, o, none⟩ := by rcases h0 with h0 | ⟨_, h0⟩; · omega
                                           exact h0
  clear h0
  go_enter Try.func70, Try.ntmps70
  go_wp2_with fail
  refine hpol.out.mono ?_
  rintro e w1 ⟨v1, rfl, ho, b1⟩
  obtain ⟨b2, o2, c2, rfl, hc2, hcell2⟩ := ints_cells (ints_of_own ho) (by omega)
  rw [hqn] at hcell2 hc2 ⊢
  have b1h := Lib.hid b1
  have hqn := Lib.hid hqn
  clear ho b1 hpol
  go_wp2_with fail
  go_loop [5, 11] (fun z i => ∃ k : Nat, k ≤ ns.length ∧ i = .int .i64 k ∧ z = .int .i64 (sigU u ns qs k)) (fun _ i => ns.length - (intOf i).toNat)
  case atStart => exact ⟨0, Nat.zero_le _, rfl, rfl⟩
  case round =>
    obtain ⟨k, hk, rfl, rfl⟩ := hrel
    by_cases hlt : k < ns.length
    · obtain ⟨x, y, hx, hcx, hcy⟩ := hcell.out k hlt
      obtain ⟨q, hq, hcq⟩ := hcell2.out k hlt
      have lb := World.block_lt_of_cell? w _ hcx
      have hcx := (b1h.out.cell (p := ⟨b, o + k * 2, none⟩) lb).trans hcx
      have hcy := (b1h.out.cell (p := ⟨b, o + k * 2 + 1, none⟩) lb).trans hcy
      have hs := Lib.hid (sigU_succ (u := u) hx hq)
      have hqq := hone.out q (List.mem_of_getElem? hq)
      clear hx hq lb
      generalize sigU u ns qs k = acc at *
      by_cases hx0 : x = 0
      · subst hx0
        by_cases hyu : y = u
        · subst hyu
          rcases hqq with rfl | rfl
          · have hs := Lib.hid (hs.out.trans (show _ = bits BinOp.or IntKind.i64 acc 1 by simp [sigS]))
            go_wp2_with fail
            go_round
            case rel => exact ⟨k + 1, by omega, by go_num, by rw [hs.out]⟩
            case measure => simp [intOf]; omega
          · have hs := Lib.hid (hs.out.trans (show _ = bits BinOp.or IntKind.i64 acc 2 by simp [sigS]))
            go_wp2_with fail
            go_round
            case rel => exact ⟨k + 1, by omega, by go_num, by rw [hs.out]⟩
            case measure => simp [intOf]; omega
        · have hyf : (y == u) = false := by rw [beq_eq_false_iff_ne]; exact hyu
          have hs := Lib.hid (hs.out.trans (show _ = acc by simp [sigS, hyu]))
          clear hyu hqq
          go_wp2_with fail
          go_round
          case rel => exact ⟨k + 1, by omega, by go_num, by rw [hs.out]⟩
          case measure => simp [intOf]; omega
      · have hxf : (x == 0) = false := by rw [beq_eq_false_iff_ne]; exact hx0
        have hs := Lib.hid (hs.out.trans (show _ = acc by simp [sigS, hx0]))
        clear hx0 hqq
        go_wp2_with fail
        go_round
        case rel => exact ⟨k + 1, by omega, by go_num, by rw [hs.out]⟩
        case measure => simp [intOf]; omega
    · obtain rfl : k = ns.length := by omega
      go_wp2_with fail
      go_ret
      exact ⟨ret_int hsig.out.symm, b1h.out⟩

theorem implVariablePolarity_any (v : Value) (ns : List Nd) (u : Int) (w : World) (h : Nodes w v ns) :
    Calls Try.prog 40 #[v, .int .i64 u] w fun e w' => e = .returned (.tuple #[.int .i64 (polR ns u), .int .i64 (codeV ns u)]) ∧ Below w.heap.size w w' := by
  have hv := Lib.hid h
  clear h
  have hcode := Lib.hid (variableCode_any v ns u w hv.out)
  by_cases h0 : codeV ns u = 0
  · have hf : formB ns = true := by rcases codeV_cases ns u with h | h | h <;> first | exact h.1 | (exfalso; omega)
    have hr := Lib.hid (show polR ns u = sigT u ns by simp [polR, h0])
    have hg := Lib.hid (fun w1 (hb : Below w.heap.size w w1) => variablePolarity_any u v ns w1 (hv.out.below hb (Nat.le_refl _)) hf)
    have hc := Lib.hid h0
    clear h0 hf
    go_enter Try.func40, Try.ntmps40
    go_wp2_with fail
    refine hcode.out.mono ?_
    rintro e w1 ⟨rfl, hb1⟩
    rw [hc.out]
    go_wp2_with fail
    refine (hg.out _ hb1).mono ?_
    rintro e w2 ⟨rfl, hb2⟩
    go_wp2_with fail
    go_ret2
    exact ⟨by rw [hr.out, hc.out]; rfl, hb1.trans (hb2.mono hb1.size)⟩
  · have hr := Lib.hid (show polR ns u = 0 by simp [polR, h0])
    have hne : (codeV ns u != 0) = true := by simpa using h0
    clear h0
    go_enter Try.func40, Try.ntmps40
    go_wp2_with fail
    refine hcode.out.mono ?_
    rintro e w1 ⟨rfl, hb1⟩
    go_wp2_with fail
    go_ret2
    exact ⟨by rw [hr.out]; rfl, hb1⟩
end Go.Proofs.Ytbpkogknmhklbaa
