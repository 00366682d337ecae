/- SubformulasOf: the program's walk. -/
import Derived.Test.YtkhbimdahjkgoaaSubfMath
import Derived.Test.YtkhbimdahjkgoaaText
import Derived.Test.YtkhbimdahjkgoaaParts
import Derived.Maps.AppendAt
import Derived.Deep.AppendLies
namespace Go.Proofs.Ytkhbimdahjkgoaa
open Go.RowKit Go.Deep
set_option linter.unusedVariables false

theorem info_string : (Try.prog.info? 9).map (fun i => (i.zero, i.size, i.bytes)) = some (some (.string ByteArray.empty), 1, 16) := by kernel_rfl
/-- The part at k, and its tree. -/
theorem part_tree {a : List Nd} (h : formB a = true) {k : Nat} (hk : k < a.length) : ∃ m, 0 < m ∧ k + m ≤ a.length ∧ partEndL a k = ((k + m : Nat) : Int) ∧ (a.drop k).take m = flat (treeOf (partL a k)) ∧ okT (treeOf (partL a k)) ∧ goodT (treeOf (partL a k)) ∧ (flat (treeOf (partL a k))).length ≤ 1000 := by
  obtain ⟨m, hm0, hm1, hme⟩ := part_in h hk
  have hp := partL_eq hme
  have hl : (partL a k).length ≤ a.length := by rw [← hp, List.length_take, List.length_drop]; omega
  have h2 := h
  simp only [formB, Bool.and_eq_true, decide_eq_true_eq] at h2
  have hform : formB (partL a k) = true := by
    have hsub : ∀ n ∈ partL a k, n ∈ a := fun n hn => by
      rw [← hp] at hn
      exact List.mem_of_mem_drop (List.mem_of_mem_take hn)
    obtain ⟨r, hr⟩ := skip_mid a 1 h2.2 k hk
    obtain ⟨t, ht, hf⟩ := tree_of_skip _ _ r (Nat.le_refl _) hr
    have hlen : (a.drop k).length = (flat t).length + r.length := by rw [hf]; simp
    rw [List.length_drop] at hlen
    have hml : m = (flat t).length := by
      unfold partEndL at hme
      rw [hr] at hme
      simp only at hme
      omega
    have hpl : partL a k = flat t := by rw [← hp, hf, hml, List.take_left]
    rw [hpl]
    refine tree_form ht (by omega) fun n hn => ?_
    exact List.all_eq_true.1 h2.1.2 n (hsub n (by rw [hpl]; exact hn))
  obtain ⟨t1, t2, t3, t4⟩ := good_tree hform
  exact ⟨m, hm0, hm1, hme, by rw [hp, t2], t1, t3, by rw [t2]; omega⟩

set_option maxHeartbeats 4000000 in
set_option maxRecDepth 100000 in
theorem subformulas_any (b : Nat) (va : Value) (a : List Nd) (w : World) (hc : w.cell? ⟨b, 0, none⟩ = some va) (hn : Nodes w va a) (hf : formB a = true) :
    Calls Try.prog 17 #[.slice (some ⟨b, 0, none⟩) 1 1] w fun e w' => ∃ v, e = .returned v ∧ w'.ownsRow w.heap.size 9 1 v (sfL a).length ((sfL a).map encStr) ∧ Below w.heap.size w w' := by
  obtain ⟨i0, hi, hz0, hz1, hz2⟩ := info_parts info_string
  have hlen : 0 < a.length ∧ a.length ≤ 40 := by simp only [formB, Bool.and_eq_true, decide_eq_true_eq] at hf; omega
  have hround := Lib.hid (fun (k : Nat) (hk : k < a.length) => part_tree hf hk)
  have hTl := subT_length a
  have hTs := Lib.hid (subT_succ a)
  have hsf := Lib.hid (sf_compact a)
  obtain ⟨aa, ca, rfl⟩ := hn.shape
  have hnh := Lib.hid hn
  have hpc := Lib.hid (fun (k m : Nat) (W : World) (hW : Below w.heap.size w W) (h1 : partEndL a k = ((k + m : Nat) : Int)) (h2 : 0 < m) (h3 : k + m ≤ a.length) => part_any (.slice aa a.length ca) a k m W (hn.below hW (Nat.le_refl _)) h1 h2 h3 (by omega))
  clear hn hf
  go_enter Try.func17, Try.ntmps17
  go_wp2_with fail
  go_loopw [3, 9] (fun v q wr => ((q = .int .i64 0 ∧ Hid (wr.ownsRow w.heap.size 9 1 v 0 ([].map encStr))) ∨ (q = .int .i64 1 ∧ Hid (wr.ownsRow w.heap.size 9 1 v a.length ((subT a).map encStr)))) ∧ Below w.heap.size w wr) (fun _ q _ => 1 - (intOf q).toNat)
  case atStart => exact ⟨.inl ⟨rfl, Lib.hid (World.ownsRow_nil _ _ _ _)⟩, Below.refl _ _⟩
  case round =>
    obtain ⟨⟨rfl, ho⟩ | ⟨rfl, ho⟩, hb⟩ := hrel
    · have hc1 := keep_cell hb hc
      generalize hal : a.length = la at *
      go_wp2_with fail
      go_loopw [3, 15] (fun v j wr => ∃ i : Nat, i ≤ la ∧ j = .int .i64 i ∧ Hid (wr.ownsRow w.heap.size 9 1 v i (((subT a).take i).map encStr)) ∧ Below w.heap.size w wr) (fun _ j _ => la - (intOf j).toNat)
      case atStart => exact ⟨0, Nat.zero_le _, rfl, ho, hb⟩
      case round =>
        clear ho hb hc1
        obtain ⟨i, hi', rfl, ho, hb⟩ := hrel
        by_cases hlt : i < la
        · obtain ⟨m, hm0, hm1, hme, hfl, ht, hg, hfn⟩ := hround.out i hlt
          have hsu := Lib.hid (hTs.out i hlt)
          generalize treeOf (partL a i) = t at *
          have hpl := Lib.hid (fun W hW => hpc.out i m W hW hme hm0 hm1)
          have hzw := hb.size
          clear hme
          go_wp2_with fail
          refine (hpl.out _ hb).mono ?_
          rintro e w2 ⟨⟨v2, rfl, hn2⟩, rfl⟩
          rw [hfl] at hn2
          go_wp2_with fail
          refine (text_any t v2 _ ht hg hn2 hfn).mono ?_
          rintro e w3 ⟨rfl, b3⟩
          have hz3 := b3.size
          have B3 := Lib.hid (keep_step b3 hb)
          have ho3 := own_below ho.out b3 (Nat.le_refl _)
          generalize txtB t = S at *
          have ho4 := Lib.hid (own_below ho3 ((Below.refl w3.heap.size w3).alloc (Nat.le_refl _) (.cells #[.string S] 9)) (Nat.le_refl _))
          have B4 := Lib.hid (B3.out.alloc B3.out.size (.cells #[.string S] 9))
          have hnew := Lib.hid (cell_one_new w3 (.string S) 9)
          have hks : w.heap.size ≤ (w3.alloc (.cells #[.string S] 9)).heap.size := B4.out.size
          have hlt2 := Lib.hid (ho4.out.lt)
          clear ho ho3 b3 hn2 hb
          go_wp2_with (at_builtin; refine wpList_append_own_at _ rfl _ _ 24 rfl w.heap.size 9 i0 (.string ByteArray.empty) 1 16 Try.underlying24 hi hz0 hz1 hz2 rfl (by decide) _ i (((subT a).take i).map encStr) rfl ho4.out ⟨w3.heap.size, 0, none⟩ 1 1 [.string S] rfl rfl hnew.out (by simp [Value.oneCell']) (by unfold maxLen; omega) (by omega) hks ?_; intro v5 w5 hown5 hgrow5 _ hblk5)
          have B5 := Lib.hid (B4.out.grown hgrow5 hks (fun j hj => (hlt2.out j hj).1))
          have ho5 := Lib.hid (show w5.ownsRow w.heap.size 9 1 v5 (i + 1) (((subT a).take (i + 1)).map encStr) from by
            rw [hsu.out, List.map_append]
            have e9 : ([byS S].map encStr) = [.string S] := by simp [enc_byS]
            rw [e9]
            exact hown5)
          clear hown5 hgrow5 hblk5 hlt2 ho4 B4 hnew
          go_roundw
          case rel => exact ⟨i + 1, by omega, by go_num, ho5, B5.out⟩
          case measure => simp [intOf]; omega
        · obtain rfl : i = la := by omega
          go_wp2_with fail
          go_roundw
          case rel => exact ⟨.inr ⟨by go_num, by rw [List.take_of_length_le (by rw [hTl]; exact Nat.le_refl _)] at ho; exact ho⟩, hb⟩
          case measure => simp [intOf] <;> omega
    · obtain ⟨g, cap, rfl, hg1, hg2⟩ := World.ownsRow.form ho.out hlen.1
      have hgK := Lib.hid (show ∀ j, some g = some j → w.heap.size ≤ j from fun j hj => by cases hj; exact hg1)
      have hso := Lib.hid (sortS_any w.heap.size g cap a.length (subT a) wr ho.out hTl (by omega))
      have hco := Lib.hid (fun (W : World) (h : W.ownsRow w.heap.size 9 1 (.slice (some ⟨g, 0, none⟩) a.length cap) a.length ((sortL (subT a)).map encStr)) => compactS_any w.heap.size g cap a.length (sortL (subT a)) W h (by rw [List.length_mergeSort]; exact hTl) (by omega))
      rw [hsf.out] at hco
      have hgw := hb.size
      generalize hR : sfL a = R at *
      replace hR := Lib.hid hR
      generalize sortL (subT a) = SL at *
      generalize a.length = la at *
      go_wp2_with fail
      refine hso.out.mono ?_
      rintro e w2 ⟨rfl, o2, g2⟩
      have B2 := Lib.hid (hb.grown g2 hgw hgK.out)
      have o2 := Lib.hid o2
      clear g2
      go_wp2_with fail
      refine (hco.out _ o2.out).mono ?_
      rintro e w3 ⟨rfl, o3, g3⟩
      have B3 := Lib.hid (B2.out.grown g3 B2.out.size hgK.out)
      have o3 := Lib.hid o3
      clear g3
      go_wp2_with fail
      go_ret
      exact ⟨.slice (some ⟨g, 0, none⟩) R.length cap, rfl, by rw [hR.out]; exact o3.out, B3.out⟩

set_option maxHeartbeats 1000000 in
theorem implSubformulasOf_any (v : Value) (ns : List Nd) (w : World) (h : Nodes w v ns) :
    Calls Try.prog 7 #[v] w fun e w' => ∃ v', e = .returned (.tuple #[v', .int .i64 (sfCode ns)]) ∧ w'.ownsRow w.heap.size 9 1 v' (sfR ns).length ((sfR ns).map encStr) ∧ Below w.heap.size w w' := by
  obtain ⟨aa, ca, rfl⟩ := h.shape
  have hif := Lib.hid (isFormula_any _ ns w h)
  have hnh := Lib.hid h
  clear h
  cases hf : formB ns
  · obtain ⟨h2, h3⟩ := sf_no hf
    have h2 := Lib.hid h2
    have h3 := Lib.hid h3
    have hf := Lib.hid hf
    rename_i hf'
    clear hf'
    generalize ns.length = ln at *
    go_enter Try.func7, Try.ntmps7
    go_wp2_with fail
    refine hif.out.mono ?_
    rintro e w1 ⟨rfl, b1⟩
    rw [hf.out]
    go_wp2_with fail
    go_ret2
    exact ⟨_, by rw [h3.out]; rfl, by rw [h2.out]; exact World.ownsRow_nil _ _ _ _, b1⟩
  · obtain ⟨h2, h3⟩ := sf_yes hf
    have h2 := Lib.hid h2
    have h3 := Lib.hid h3
    have hsub := Lib.hid (fun w1 (b1 : Below w.heap.size w w1) => subformulas_any w1.heap.size (.slice aa ns.length ca) ns (w1.alloc (.cells #[.slice aa ns.length ca] 27)) (by rw [World.cell?_alloc_at _ _ _ _ rfl]; rfl) (hnh.out.below (b1.alloc b1.size _) (Nat.le_refl _)) hf)
    have hf := Lib.hid hf
    rename_i hf'
    clear hf'
    generalize ns.length = ln at *
    go_enter Try.func7, Try.ntmps7
    go_wp2_with fail
    refine hif.out.mono ?_
    rintro e w1 ⟨rfl, b1⟩
    rw [hf.out]
    have B2 := Lib.hid (b1.alloc b1.size (.cells #[.slice aa ln ca] 27))
    have hsb := Lib.hid (hsub.out w1 b1)
    have hz := b1.size
    clear b1
    go_wp2_with fail
    refine hsb.out.mono ?_
    rintro e w2 ⟨v2, rfl, o2, b2⟩
    have B3 := Lib.hid (keep_step b2 B2.out)
    have o2 := Lib.hid (own_mono o2 (show w.heap.size ≤ (w1.alloc (.cells #[.slice aa ln ca] 27)).heap.size from B2.out.size))
    clear b2
    go_wp2_with fail
    go_ret2
    exact ⟨_, by rw [h3.out]; rfl, by rw [h2.out]; exact o2.out, B3.out⟩
end Go.Proofs.Ytkhbimdahjkgoaa
