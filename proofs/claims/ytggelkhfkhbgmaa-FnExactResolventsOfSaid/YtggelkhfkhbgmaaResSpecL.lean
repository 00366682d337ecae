/- spec.l04Resolvents, spec.l04Sorted at one list at the most, spec.ResolventsOf. -/
import Derived.Test.YtggelkhfkhbgmaaResSpec
namespace Go.Proofs.Ytggelkhfkhbgmaa
open Go.RowKit Go.Lib
set_option linter.unusedVariables false

set_option maxHeartbeats 4000000 in
set_option maxRecDepth 100000 in
theorem l04Resolvents_any (vc vd : Value) (c d : List Int) (w : World) (hc : Ints w vc c) (hd : Ints w vd d) (cc : clauseB c = true) (cd : clauseB d = true) :
    Calls Try.prog 22 #[vc, vd] w fun e w' => ∃ v, e = .returned v ∧ OwnII w.heap.size w'.heap.size w' v (rvL c d 6) ∧ Below w.heap.size w w' := by
  obtain ⟨i0, hi, hz0, hz1, hz2⟩ := info_parts info_ints
  have hre := Lib.hid (fun (k : Nat) (hk : k < 6) W (hb : Below w.heap.size w W) => l04Resolve_any vc vd c d k W (hc.below hb (Nat.le_refl _)) (hd.below hb (Nat.le_refl _)) hk)
  have hone := Lib.hid (fun k => rvL_one cc cd k)
  have hsuc := Lib.hid (fun k => rvL_succ c d k)
  have hl0 := Lib.hid (show GrowI w.heap.size (w.alloc (.cells #[] 22)) (.slice (some ⟨w.heap.size, 0, none⟩) 0 0) [] from ⟨World.ownsRow_lit (e := 22) (base := w.heap.size) (size := 1) w #[] 0 (Nat.le_refl _) (by simp [maxLen]) rfl, fun _ h => absurd h List.not_mem_nil, fun _ h => absurd h List.not_mem_nil, List.Pairwise.nil, by simp⟩)
  have hba := Lib.hid ((Below.refl w.heap.size w).alloc (Nat.le_refl _) (.cells #[] 22))
  clear hc hd cc cd
  go_enter Try.func22, Try.ntmps22
  go_wp2_with fail
  go_loopw [5, 6] (fun v i wr => ∃ (k : Nat) (ss : List SlI), k ≤ 6 ∧ i = .int .i64 k ∧ GrowI w.heap.size wr v ss ∧ Hid (ss.map Prod.snd = rvL c d k) ∧ Below w.heap.size w wr) (fun _ i _ => 6 - (intOf i).toNat)
  case atStart => exact ⟨0, [], by omega, rfl, hl0.out, Lib.hid rfl, hba.out⟩
  case round =>
    clear hl0 hba
    obtain ⟨k, ss, hk, rfl, ho, hss, hb⟩ := hrel
    have hsl : ss.length ≤ 1 := by have h1 := congrArg List.length hss.out; have := hone.out k; rw [List.length_map] at h1; omega
    have hoh := Lib.hid ho
    by_cases hlt : k < 6
    · have hki : (k : Int) < 6 := by omega
      clear ho
      have hsz0 := hb.size
      go_wp2_with fail
      refine (hre.out k hlt _ hb).mono ?_
      rintro e w2 ⟨v2, rfl, o2, b2⟩
      cases hok : resOk c d k
      · go_wp2_with fail
        go_roundw
        case rel => exact ⟨k + 1, ss, by omega, by go_num, hoh.out.below b2, Lib.hid (by rw [hsuc.out, hok, hss.out]; simp), keep_step b2 hb⟩
        case measure => simp [intOf]; omega
      · have o2 := o2.out hok
        obtain ⟨_, a2, cp2, bb2, oo2, rfl, _, _, _⟩ := (ints_of_own o2).opened
        have b3 := Lib.hid (b2.alloc b2.size (.cells #[.slice a2 (resL c d k).length cp2] 22))
        have ho3 := Lib.hid (own_below o2 ((Below.refl w2.heap.size w2).alloc (Nat.le_refl _) (.cells #[.slice a2 (resL c d k).length cp2] 22)) (Nat.le_refl _))
        have hg3 := Lib.hid (hoh.out.below b3.out)
        have hnew := Lib.hid (cell_one_new w2 (.slice a2 (resL c d k).length cp2) 22)
        have hks := hg3.out.ks
        have hsucc := Lib.hid (show rvL c d (k + 1) = rvL c d k ++ [resL c d k] by rw [hsuc.out, hok, if_pos rfl])
        clear o2 b2 hok
        generalize resL c d k = RL at *
        go_wp2_with (at_builtin; refine wpList_append_own_at _ rfl _ _ 23 rfl w.heap.size 22 i0 (.slice none 0 0) 1 24 Try.underlying23 hi hz0 hz1 hz2 rfl (by decide) _ ss.length (ss.map slVI) rfl hg3.out.own ⟨w2.heap.size, 0, none⟩ 1 1 [.slice a2 RL.length cp2] rfl rfl hnew.out (by simp [Value.oneCell']) (by unfold maxLen; omega) (by omega) hks ?_; intro v2 w4 hown2 hgrow2 _ hblk2)
        go_roundw
        case rel =>
          refine ⟨k + 1, ss ++ [((a2, RL.length, cp2), RL)], by omega, by go_num, ?_, ?_, ?_⟩
          · exact hoh.out.add (s := ((a2, RL.length, cp2), RL)) b3.out ho3.out hown2 hgrow2 hblk2
          · refine Lib.hid ?_
            rw [List.map_append, hss.out, hsucc.out]; rfl
          · exact (hb.trans (b3.out.mono hoh.out.ks)).grown hgrow2 hks (fun j hj => (hg3.out.own.lt j hj).1)
        case measure => simp [intOf]; omega
    · obtain rfl : k = 6 := by omega
      clear ho
      go_wp2_with fail
      go_ret
      exact ⟨_, rfl, by rw [← hss.out]; exact hoh.out.ownII, hb⟩
set_option maxHeartbeats 4000000 in
set_option maxRecDepth 100000 in
theorem l04SortedOne_any (v : Value) (Is : List (List Int)) (w : World) (h : Fi w v Is) (hn : Is.length ≤ 1) (hl : ∀ r ∈ Is, r.length ≤ 1000) :
    Calls Try.prog 21 #[v] w fun e w' => ∃ v', e = .returned v' ∧ Fi w' v' Is ∧ Below w.heap.size w w' := by
  obtain ⟨i0, hi, hz0, hz1, hz2⟩ := info_parts info_ints
  obtain ⟨a, c, b, o, rfl, hc, hm, ha, hcell⟩ := h.cells
  have hl0 := Lib.hid (show GrowI w.heap.size (w.alloc (.cells #[] 22)) (.slice (some ⟨w.heap.size, 0, none⟩) 0 0) [] from ⟨World.ownsRow_lit (e := 22) (base := w.heap.size) (size := 1) w #[] 0 (Nat.le_refl _) (by simp [maxLen]) rfl, fun _ h => absurd h List.not_mem_nil, fun _ h => absurd h List.not_mem_nil, List.Pairwise.nil, by simp⟩)
  have hba := Lib.hid ((Below.refl w.heap.size w).alloc (Nat.le_refl _) (.cells #[] 22))
  match Is, hn with
  | [], _ =>
    clear hcell ha h
    have hres := Lib.hid (hl0.out.ownII.fs)
    clear hl0
    go_enter Try.func21, Try.ntmps21
    go_wp2_with fail
    go_loop [3, 4] (fun v i => v = .slice (some ⟨w.heap.size, 0, none⟩) 0 0 ∧ i = .int .i64 0) (fun _ _ => 1)
    case atStart => exact ⟨rfl, rfl⟩
    case round =>
      obtain ⟨rfl, rfl⟩ := hrel
      go_wp2_with fail
      go_ret
      exact ⟨_, rfl, hres.out, hba.out⟩
  | [r], _ =>
    obtain rfl := ha (by simp)
    obtain ⟨vI, I, hI, hcI, hintI⟩ := hcell.out 0 (by simp)
    obtain rfl : r = I := by simpa using hI
    have hown := Lib.hid (fun W (hb : Below w.heap.size w W) => l01Own_any vI r W (hintI.below hb (Nat.le_refl _)) (by have := hl r (by simp); omega))
    clear hcell ha h hI hintI hl
    go_enter Try.func21, Try.ntmps21
    have hsrc0 := Lib.hid (fun (W : World) (q : Addr) => show ∀ (j : Nat) (u : Value), ([] : List Value)[j]? = some u → W.cell? (q.add j) = some u from fun j u hu => by simp at hu)
    have hno := Lib.hid (show ∀ u ∈ ([] : List Value), u.oneCell' = true from fun u hu => absurd hu List.not_mem_nil)
    go_wp2_with fail
    go_loopw [3, 4] (fun v i wr => ((i = .int .i64 0 ∧ v = .slice (some ⟨w.heap.size, 0, none⟩) 0 0 ∧ wr = w.alloc (.cells #[] 22)) ∨ (i = .int .i64 1 ∧ Hid (Fi wr v [r]))) ∧ Below w.heap.size w wr) (fun _ i _ => 2 - (intOf i).toNat)
    case atStart => exact ⟨.inl ⟨rfl, rfl, rfl⟩, hba.out⟩
    case round =>
      obtain ⟨⟨rfl, rfl, rfl⟩ | ⟨rfl, hf⟩, hb⟩ := hrel
      · have hb := Lib.hid hb
        clear hba
        go_wp2_with fail
        go_loopw [5] (fun j wj => j = .int .i64 0 ∧ Below (w.alloc (.cells #[] 22)).heap.size (w.alloc (.cells #[] 22)) wj) (fun _ _ => 1)
        case atStart => exact ⟨rfl, Below.refl _ _⟩
        case round =>
          obtain ⟨rfl, hbj⟩ := hrel
          have hbj := Lib.hid hbj
          have bj := Lib.hid (fun (a : Nat) => keep_step (below_drewN hbj.out a) hb.out)
          have hlit := Lib.hid (fun (a : Nat) => World.ownsRow_lit (e := 22) (base := w.heap.size) (size := 1) (wr.drewN a) #[] 0 (bj.out a).size (by simp [maxLen]) rfl)
          have bA := Lib.hid (fun (a : Nat) => (bj.out a).alloc (bj.out a).size (.cells #[] 22))
          clear hl0 hb hbj
          have hgd := Lib.hid (fun (W : World) (hb : Below w.heap.size w W) => keep_cell hb hcI)
          go_wp2_with fail
          go_quiet (fail)
          go_wp2_with fail
          go_quiet (fail)
          have hm0 : 0 + 0 ≤ maxLen := by unfold maxLen; omega
          have hm1 : 0 + 1 ≤ maxLen := by unfold maxLen; omega
          have hm2 : 1 + 0 ≤ maxLen := by unfold maxLen; omega
          go_upto_region 10 with (at_builtin; refine wpList_append_own_at _ rfl _ _ 23 rfl w.heap.size 22 i0 (.slice none 0 0) 1 24 Try.underlying23 hi hz0 hz1 hz2 rfl (by decide) _ 0 [] rfl (hlit.out _) ⟨w.heap.size, 0, none⟩ 0 _ [] rfl rfl (hsrc0.out _ _) hno.out hm0 (by omega) (bA.out _).size ?_; intro v1 w1 hown1 hgrow1 _ hblk1)
          have B1 := Lib.hid ((bA.out _).grown hgrow1 (bA.out _).size (fun j hj => ((hlit.out 0).lt j hj).1))
          have G1 : Hid (GrowI w.heap.size w1 v1 []) := Lib.hid ⟨hown1, fun _ h => absurd h List.not_mem_nil, fun _ h => absurd h List.not_mem_nil, List.Pairwise.nil, B1.out.size⟩
          have hc1 := keep_cell B1.out hcI
          rw [Nat.add_zero] at hc1
          clear hown1 hgrow1 hblk1
          go_wp2_with fail
          refine (hown.out _ B1.out).mono ?_
          rintro e w2 ⟨v2, rfl, o2, b2⟩
          obtain ⟨_, a2, cp2, bb2, oo2, rfl, _, _, _⟩ := (ints_of_own o2).opened
          have b3 := Lib.hid (b2.alloc b2.size (.cells #[.slice a2 r.length cp2] 22))
          have ho3 := Lib.hid (own_below o2 ((Below.refl w2.heap.size w2).alloc (Nat.le_refl _) (.cells #[.slice a2 r.length cp2] 22)) (Nat.le_refl _))
          have hg3 := Lib.hid (G1.out.below b3.out)
          have hnew := Lib.hid (cell_one_new w2 (.slice a2 r.length cp2) 22)
          have hks := hg3.out.ks
          clear o2 b2
          go_upto_region 11 with (at_builtin; refine wpList_append_own_at _ rfl _ _ 23 rfl w.heap.size 22 i0 (.slice none 0 0) 1 24 Try.underlying23 hi hz0 hz1 hz2 rfl (by decide) _ 0 [] rfl hg3.out.own ⟨w2.heap.size, 0, none⟩ 1 1 [.slice a2 r.length cp2] rfl rfl hnew.out (by simp [Value.oneCell']) hm1 (by omega) hks ?_; intro v4 w4 hown4 hgrow4 _ hblk4)
          have G4 := Lib.hid (G1.out.add (s := ((a2, r.length, cp2), r)) b3.out ho3.out hown4 hgrow4 hblk4)
          have B4 := Lib.hid ((keep_step b3.out B1.out).grown hgrow4 hks (fun j hj => (hg3.out.own.lt j hj).1))
          clear hown4 hgrow4 hblk4
          go_wp2_with (at_builtin; refine wpList_append_own_at _ rfl _ _ 23 rfl w.heap.size 22 i0 (.slice none 0 0) 1 24 Try.underlying23 hi hz0 hz1 hz2 rfl (by decide) _ 1 [.slice a2 r.length cp2] rfl G4.out.own ⟨w.heap.size, 0, none⟩ 0 _ [] rfl rfl (hsrc0.out _ _) hno.out hm2 (by omega) B4.out.size ?_; intro v5 w5 hown5 hgrow5 _ hblk5)
          have B5 := Lib.hid (B4.out.grown hgrow5 B4.out.size (fun j hj => (G4.out.own.lt j hj).1))
          have F5 : Hid (Fi w5 v5 [r]) := Lib.hid ⟨[((a2, r.length, cp2), r)], reads_of_own (B := w.heap.size) (e := 22) (by simpa [slVI] using hown5), fun s hs => by
            obtain rfl : s = ((a2, r.length, cp2), r) := by simpa using hs
            exact ints_grown (ints_of_own (G4.out.row _ (by simp))) hgrow5 (fun k hk => G4.out.ap _ (by simp) k hk), rfl⟩
          clear hown5 hgrow5 hblk5
          go_roundw
          case rel => exact ⟨.inr ⟨rfl, F5⟩, B5.out⟩
          case measure => simp [intOf]
      · go_wp2_with fail
        go_ret
        exact ⟨_, rfl, hf.out, hb⟩
end Go.Proofs.Ytggelkhfkhbgmaa
