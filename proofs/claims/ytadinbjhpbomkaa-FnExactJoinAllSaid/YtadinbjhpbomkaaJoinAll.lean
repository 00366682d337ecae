/- JoinAll, of both. -/
import Derived.Test.YtadinbjhpbomkaaRowSS
import Derived.Test.YtadinbjhpbomkaaConst
import Derived.Test.YtadinbjhpbomkaaReplTwo
namespace Go.Proofs.Ytadinbjhpbomkaa
open Go.RowKit

def jaPart (k : Int) (Is : List (List Nd)) : List Nd := List.replicate (Is.length - 1) (k, (0 : Int)) ++ Is.flatten
def jaL (k : Int) (Is : List (List Nd)) : List Nd := if Is.length = 0 then (if k = 2 then truthL else [(1, 0)]) else jaPart k Is
def jaCode (k : Int) (Is : List (List Nd)) : Int := if Is.all formB then (if k = 2 ∨ k = 3 then (if (jaL k Is).length ≤ 40 then 0 else 3) else 2) else 1
def jaR (k : Int) (Is : List (List Nd)) : List Nd := if jaCode k Is = 0 then jaL k Is else []
theorem ja_cases (k : Int) (Is : List (List Nd)) : (Is.all formB = false ∧ jaCode k Is = 1 ∧ jaR k Is = []) ∨ (Is.all formB = true ∧ ¬ (k = 2 ∨ k = 3) ∧ jaCode k Is = 2 ∧ jaR k Is = []) ∨
    (Is.all formB = true ∧ (k = 2 ∨ k = 3) ∧ 40 < (jaL k Is).length ∧ jaCode k Is = 3 ∧ jaR k Is = []) ∨ (Is.all formB = true ∧ (k = 2 ∨ k = 3) ∧ (jaL k Is).length ≤ 40 ∧ jaCode k Is = 0 ∧ jaR k Is = jaL k Is) := by
  unfold jaR jaCode
  cases Is.all formB <;> by_cases h1 : k = 2 ∨ k = 3 <;> by_cases h2 : (jaL k Is).length ≤ 40 <;> simp [h1, h2] <;> omega
theorem jaR_length (k : Int) (Is : List (List Nd)) : (jaR k Is).length ≤ 64 := by
  rcases ja_cases k Is with ⟨_, _, h⟩ | ⟨_, _, _, h⟩ | ⟨_, _, _, _, h⟩ | ⟨_, _, h1, _, h⟩ <;> rw [h] <;> first | (simp; done) | omega
theorem flat_len (Is : List (List Nd)) : Is.flatten.length = tot Is := by simp [tot, List.length_flatten]
theorem jaPart_len (k : Int) (Is : List (List Nd)) : (jaPart k Is).length = Is.length - 1 + tot Is := by unfold jaPart; rw [List.length_append, List.length_replicate, flat_len]
theorem jaL_len (k : Int) {Is : List (List Nd)} (h : 0 < Is.length) : (jaL k Is).length = Is.length - 1 + tot Is := by unfold jaL; rw [if_neg (by omega), jaPart_len]
theorem forms_len {Is : List (List Nd)} (h : Is.all formB = true) : ∀ I ∈ Is, 0 < I.length ∧ I.length ≤ 40 := fun I hI => form_len3 (List.all_eq_true.1 h I hI)
theorem forms_tot {Is : List (List Nd)} (h : Is.all formB = true) (hn : Is.length ≤ 1048576) : tot Is ≤ 41943040 := by
  have h1 := tot_le fun I hI => (forms_len h I hI).2
  have := Nat.mul_le_mul_right 40 hn
  omega
theorem flat_succ {Is : List (List Nd)} {k : Nat} {I : List Nd} (h : Is[k]? = some I) : (Is.take (k + 1)).flatten = (Is.take k).flatten ++ I := by
  rw [List.take_add_one, h]; simp
theorem repl_succ (n : Nat) (x : Nd) : List.replicate (n + 1) x = List.replicate n x ++ [x] := List.replicate_succ'
theorem jaPart_succ (k : Int) {Is : List (List Nd)} {j : Nat} {I : List Nd} (h : Is[j]? = some I) (h0 : 0 < j) : jaPart k (Is.take (j + 1)) = ((k, 0) :: jaPart k (Is.take j)) ++ I := by
  have hj : j < Is.length := (List.getElem?_eq_some_iff.1 h).1
  unfold jaPart
  rw [flat_succ h, List.length_take, List.length_take, Nat.min_eq_left (by omega), Nat.min_eq_left (by omega)]
  have e : j + 1 - 1 = (j - 1) + 1 := by omega
  rw [e, List.replicate_succ]
  simp

theorem truth_row (w : World) :
    Calls Try.prog 109 #[] w fun e w' => ∃ v, e = .returned v ∧ w'.ownsRow w.heap.size 59 2 v 3 (cellsN truthL) ∧ Below w.heap.size w w' := by
  have hl0 := Lib.hid (World.ownsRow_lit (e := 59) (base := w.heap.size) (size := 2) w #[.int .i64 4, .int .i64 0, .int .i64 1, .int .i64 0, .int .i64 1, .int .i64 0] 3 (Nat.le_refl _) (by simp [maxLen]) rfl)
  go_enter Try.func109, Try.ntmps109
  go_wp2_with fail
  go_ret
  exact ⟨_, rfl, hl0.out, (Below.refl _ _).alloc (Nat.le_refl _) _⟩
theorem falsum_row (w : World) :
    Calls Try.prog 110 #[] w fun e w' => ∃ v, e = .returned v ∧ w'.ownsRow w.heap.size 59 2 v 1 (cellsN [(1, 0)]) ∧ Below w.heap.size w w' := by
  have hl0 := Lib.hid (World.ownsRow_lit (e := 59) (base := w.heap.size) (size := 2) w #[.int .i64 1, .int .i64 0] 1 (Nat.le_refl _) (by simp [maxLen]) rfl)
  go_enter Try.func110, Try.ntmps110
  go_wp2_with fail
  go_ret
  exact ⟨_, rfl, hl0.out, (Below.refl _ _).alloc (Nat.le_refl _) _⟩
theorem l02True_row (w : World) :
    Calls Try.prog 106 #[] w fun e w' => ∃ v, e = .returned v ∧ w'.ownsRow w.heap.size 59 2 v 3 (cellsN truthL) ∧ Below w.heap.size w w' := by
  go_enter Try.func106, Try.ntmps106
  go_wp2_with fail
  refine (l02False_own _).mono ?_
  rintro e w1 ⟨vf, rfl, hof, b1⟩
  have hof := Lib.hid hof
  go_wp2_with fail
  refine (l02Not_own _ [(1, 0)] _ (nodes_of_own hof.out) (by simp) (by simp)).mono ?_
  rintro e w2 ⟨v2, rfl, ho, b2⟩
  have ho := Lib.hid (own_mono ho b1.size)
  go_wp2_with fail
  go_ret
  exact ⟨_, rfl, ho.out, b1.trans (b2.mono b1.size)⟩

set_option maxHeartbeats 2000000 in
theorem joinAll_empty (k : Int) (v : Value) (Is : List (List Nd)) (w : World) (h : Fs w v Is) (h0 : Is.length = 0) :
    Calls Try.prog 75 #[.int .i64 k, v] w fun e w' => ∃ v', e = .returned v' ∧ w'.ownsRow w.heap.size 59 2 v' (jaL k Is).length (cellsN (jaL k Is)) ∧ Below w.heap.size w w' := by
  obtain ⟨a, c, b, o, rfl, hc, hm, ha, hcell⟩ := h.cells
  clear h ha hcell
  by_cases hk : k = 2
  · have hj := Lib.hid (show jaL k Is = truthL by unfold jaL; rw [if_pos h0, if_pos hk])
    subst hk
    rw [h0]
    clear h0 hc hm
    go_enter Try.func75, Try.ntmps75
    go_wp2_with fail
    refine (truth_row _).mono ?_
    rintro e w1 ⟨v1, rfl, ho, b1⟩
    have ho := Lib.hid ho
    go_wp2_with fail
    go_ret
    exact ⟨_, rfl, by rw [hj.out]; exact ho.out, b1⟩
  · have hj := Lib.hid (show jaL k Is = [(1, 0)] by unfold jaL; rw [if_pos h0, if_neg hk])
    rw [h0]
    clear h0 hc hm
    have hkf : (k == 2) = false := by rw [beq_eq_false_iff_ne]; exact hk
    go_enter Try.func75, Try.ntmps75
    go_wp2_with fail
    refine (falsum_row _).mono ?_
    rintro e w1 ⟨v1, rfl, ho, b1⟩
    have ho := Lib.hid ho
    go_wp2_with fail
    go_ret
    exact ⟨_, rfl, by rw [hj.out]; exact ho.out, b1⟩

set_option maxHeartbeats 2000000 in
theorem joinAll_any (k : Int) (v : Value) (Is : List (List Nd)) (w : World) (h : Fs w v Is) (hf : Is.all formB = true) (hsm : Is.length ≤ 1048576) :
    Calls Try.prog 75 #[.int .i64 k, v] w fun e w' => ∃ v', e = .returned v' ∧ w'.ownsRow w.heap.size 59 2 v' (jaL k Is).length (cellsN (jaL k Is)) ∧ Below w.heap.size w w' := by
  by_cases h0 : Is.length = 0
  · exact joinAll_empty k v Is w h h0
  have hp : 0 < Is.length := by omega
  obtain ⟨i0, hi, hz0, hz1, hz2⟩ := info_parts info_node
  obtain ⟨a, c, b, o, rfl, hc, hm, ha, hcell⟩ := h.cells
  obtain rfl := ha hp
  have hjl := jaL_len k hp
  have hjp := Lib.hid (show jaL k Is = jaPart k Is by unfold jaL; rw [if_neg h0])
  have htot := forms_tot hf hsm
  have hfl := Lib.hid (forms_len hf)
  have htk := Lib.hid (tot_take_le Is)
  clear h ha hm hf
  generalize hT : tot Is = T at *
  have hTh := Lib.hid hT
  generalize hn : Is.length = n at *
  have hnh := Lib.hid hn
  rw [hjl]
  clear hT hn hjl h0
  have hn0 : ((n : Int) == 0) = false := by rw [beq_eq_false_iff_ne]; omega
  go_enter Try.func75, Try.ntmps75
  go_wp2_with fail
  go_loop [5, 23] (fun s i => ∃ (j t : Nat), j ≤ n ∧ i = .int .i64 j ∧ s = .int .i64 ((n - 1 + t : Nat) : Int) ∧ t ≤ T ∧ Hid (tot (Is.take j) = t)) (fun _ i => n - (intOf i).toNat)
  case atStart => exact ⟨0, 0, Nat.zero_le _, rfl, by go_num, Nat.zero_le _, rfl⟩
  case round =>
    obtain ⟨j, t, hj, rfl, rfl, ht, hjt⟩ := hrel
    by_cases hlt : j < n
    · obtain ⟨vI, I, hIk, hcI, hnI⟩ := hcell.out j hlt
      have hlen := (hfl.out I (List.mem_of_getElem? hIk)).2
      have hts := tot_succ hIk
      have htl := htk.out (j + 1)
      rw [hts, hjt.out] at htl
      rw [hjt.out] at hts
      have hts := Lib.hid hts
      obtain ⟨a1, c1, rfl⟩ := hnI.shape
      clear hnI hIk
      generalize I.length = m at *
      go_wp2_with fail
      go_round
      case rel => exact ⟨j + 1, t + m, by omega, by go_num, by go_num, by omega, hts.out⟩
      case measure => simp [intOf]; omega
    · obtain rfl : j = n := by omega
      have htt : t = T := by
        have h1 := hjt.out
        rw [List.take_of_length_le (by have := hnh.out; omega), hTh.out] at h1
        omega
      subst htt
      clear hjt ht
      have hNeg : ¬ ((j - 1 + t : Nat) : Int) < 0 := by omega
      go_wp2_with (first | (at_make; refine wpList_make_own _ rfl _ _ 26 rfl w.heap.size 59 i0 (.agg #[.int .i64 0, .int .i64 0]) 2 Try.underlying26 hi hz0 hz1 _ _ _ (j - 1 + t) rfl rfl rfl (by rw [hz2]; omega) (by unfold maxLen; omega) (Nat.le_refl _) ?_; intro w1 hown hgr) | go_in)
      have hbw1 := below_of_grownBy hgr (Nat.le_refl _) (by simp)
      go_loopw [8, 37] (fun z i wr => ∃ q : Nat, q ≤ j - 1 ∧ i = .int .i64 q ∧ Hid (wr.ownsRow w.heap.size 59 2 z q (cellsN (List.replicate q (k, 0)))) ∧ Below w.heap.size w wr) (fun _ i _ => j - (intOf i).toNat)
      case atStart => exact ⟨0, Nat.zero_le _, rfl, hown, hbw1⟩
      case round =>
        clear hown hgr hbw1
        obtain ⟨q, hq, rfl, ho, hb⟩ := hrel
        by_cases hql : q < j - 1
        · have hbs := hb.size
          have hoA := Lib.hid (ho.out.alloc (.cells #[.int .i64 k, .int .i64 0] 59))
          have hnew := Lib.hid (news_two wr k 0 59)
          have hone := Lib.hid (nodes_oneCell [(k, 0)])
          have hqi : (q : Int) < (j : Int) - 1 := by omega
          go_wp2_with (at_builtin; refine wpList_append_own _ rfl _ _ 26 rfl w.heap.size 59 i0 (.agg #[.int .i64 0, .int .i64 0]) 2 16 Try.underlying26 hi hz0 hz1 hz2 rfl (by decide) _ _ _ rfl hoA.out ⟨wr.heap.size, 0, none⟩ 1 1 (cellsN [(k, 0)]) rfl rfl hnew.out hone.out (by unfold maxLen; omega) (by omega) (by simp; omega) ?_; intro v1 w1 hown1 hgrow1 _)
          go_roundw
          case rel =>
            refine ⟨q + 1, by omega, by go_num, ?_, (hb.alloc hbs _).grown hgrow1 (by simp; omega) (fun j hj => (ho.out.lt j hj).1)⟩
            show World.ownsRow _ _ _ _ _ _ _
            rw [repl_succ, cellsN_append]
            exact hown1
          case measure => simp [intOf]; omega
        · obtain rfl : q = j - 1 := by omega
          have hqi : ¬ (((j - 1 : Nat) : Int) < (j : Int) - 1) := by omega
          have hlen0 : ∃ L : Nat, (List.replicate (j - 1) ((k, 0) : Nd)).length = L := ⟨_, rfl⟩
          go_wp2_with fail
          go_loopw [8, 47] (fun z i wr => ∃ (p t1 : Nat), p ≤ j ∧ i = .int .i64 p ∧ t1 ≤ t ∧ Hid (tot (Is.take p) = t1) ∧ Hid (wr.ownsRow w.heap.size 59 2 z (j - 1 + t1) (cellsN (List.replicate (j - 1) (k, 0) ++ (Is.take p).flatten))) ∧ Below w.heap.size w wr) (fun _ i _ => j - (intOf i).toNat)
          case atStart => exact ⟨0, 0, Nat.zero_le _, rfl, Nat.zero_le _, rfl, by simpa using ho, hb⟩
          case round =>
            clear ho hb hqi
            obtain ⟨p, t1, hp1, rfl, ht1, hpt, ho, hb⟩ := hrel
            by_cases hlt : p < j
            · obtain ⟨vI, I, hIk, hcI, hnI⟩ := hcell.out p hlt
              have hcI := (hb.cell (p := ⟨b, o + p, none⟩) (World.block_lt_of_cell? w _ hcI)).trans hcI
              have hlen := hfl.out I (List.mem_of_getElem? hIk)
              have hts := tot_succ hIk
              have htl := htk.out (p + 1)
              rw [hts, hpt.out] at htl
              rw [hpt.out] at hts
              have hts := Lib.hid hts
              have hfs := Lib.hid (flat_succ hIk)
              obtain ⟨c', b', o', rfl, hcc', hcm', hcell'⟩ := hnI.raw hlen.1
              have hsrc := Lib.hid (nodes_src (cells_below hcell'.out hb (Nat.le_refl _)))
              have hlenI := Lib.hid (cellsN_length I)
              have hone := Lib.hid (nodes_oneCell I)
              have hbs := hb.size
              clear hnI hIk hcell' hcm'
              generalize hmI : I.length = m at *
              have hmI := Lib.hid hmI
              go_wp2_with (at_builtin; refine wpList_append_own _ rfl _ _ 26 rfl w.heap.size 59 i0 (.agg #[.int .i64 0, .int .i64 0]) 2 16 Try.underlying26 hi hz0 hz1 hz2 rfl (by decide) _ _ _ rfl ho.out ⟨b', o', none⟩ m c' (cellsN I) rfl hlenI.out hsrc.out hone.out (by unfold maxLen; omega) (by omega) hbs ?_; intro v1 w1 hown1 hgrow1 _)
              go_roundw
              case rel =>
                refine ⟨p + 1, t1 + m, by omega, by go_num, by omega, hts.out, ?_, hb.grown hgrow1 hbs (fun j hj => (ho.out.lt j hj).1)⟩
                show World.ownsRow _ _ _ _ _ _ _
                rw [hfs.out, ← List.append_assoc, cellsN_append, ← Nat.add_assoc]
                exact hown1
              case measure => simp [intOf]; omega
            · obtain rfl : p = j := by omega
              have hfin := ho.out
              have h2 := hpt.out
              rw [List.take_of_length_le (by have := hnh.out; omega)] at h2
              have e2 : t1 = t := by rw [← h2]; exact hTh.out
              have e1 : List.replicate (p - 1) ((k, 0) : Nd) ++ (Is.take p).flatten = jaL k Is := by
                rw [hjp.out, List.take_of_length_le (by have := hnh.out; omega)]
                unfold jaPart
                rw [hnh.out]
              rw [e1, e2] at hfin
              clear h2 e1 e2
              have hfin := Lib.hid hfin
              clear ho
              go_wp2_with fail
              go_ret
              exact ⟨_, rfl, hfin.out, hb⟩
end Go.Proofs.Ytadinbjhpbomkaa
