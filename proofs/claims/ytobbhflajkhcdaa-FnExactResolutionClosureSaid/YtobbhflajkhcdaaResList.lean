/- impl.resolvents and impl.ResolventsOf. -/
import Derived.Test.YtobbhflajkhcdaaSortOne
import Derived.Test.YtobbhflajkhcdaaIntGrow
namespace Go.Proofs.Ytobbhflajkhcdaa
open Go.RowKit Go.Lib
set_option linter.unusedVariables false

set_option maxHeartbeats 4000000 in
set_option maxRecDepth 100000 in
theorem resolvents_any (vc vd : Value) (c d : List Int) (w : World) (hc : Ints w vc c) (hd : Ints w vd d) (cc : clauseB c = true) (cd : clauseB d = true) :
    Calls Try.prog 21 #[vc, vd] w fun e w' => ∃ v, e = .returned v ∧ OwnII w.heap.size w'.heap.size w' v (rvL c d 6) ∧ Below w.heap.size w w' := by
  obtain ⟨i0, hi, hz0, hz1, hz2⟩ := info_parts info_ints
  have hre := Lib.hid (fun (k : Nat) (hk : k < 6) W (hb : Below w.heap.size w W) => resolve_any vc vd c d k W (hc.below hb (Nat.le_refl _)) (hd.below hb (Nat.le_refl _)) cc cd hk)
  have hone := Lib.hid (fun k => rvL_one cc cd k)
  have hsuc := Lib.hid (fun k => rvL_succ c d k)
  clear hc hd cc cd
  go_enter Try.func21, Try.ntmps21
  go_wp2_with fail
  go_loopw [5, 9] (fun v i wr => ∃ (k : Nat) (ss : List SlI), k ≤ 6 ∧ i = .int .i64 k ∧ GrowI w.heap.size wr v ss ∧ Hid (ss.map Prod.snd = rvL c d k) ∧ Below w.heap.size w wr) (fun _ i _ => 6 - (intOf i).toNat)
  case atStart => exact ⟨0, [], by omega, rfl, GrowI.nil (Nat.le_refl _), Lib.hid rfl, Below.refl _ _⟩
  case round =>
    obtain ⟨k, ss, hk, rfl, ho, hss, hb⟩ := hrel
    have hsl : ss.length ≤ 1 := by have h1 := congrArg List.length hss.out; have := hone.out k; rw [List.length_map] at h1; omega
    have hoh := Lib.hid ho
    by_cases hlt : k < 6
    · have hki : (k : Int) < 6 := by omega
      clear ho
      have hsz0 := hb.size
      go_wp2_with fail
      refine (hre.out k hlt _ hb).mono ?_
      rintro e w2 ⟨v2, rfl, o2, b2⟩
      cases hok : resOk c d k
      · go_wp2_with fail
        go_roundw
        case rel => exact ⟨k + 1, ss, by omega, by go_num, hoh.out.below b2, Lib.hid (by rw [hsuc.out, hok, hss.out]; simp), keep_step b2 hb⟩
        case measure => simp [intOf]; omega
      · have o2 := o2.out hok
        obtain ⟨_, a2, cp2, bb2, oo2, rfl, _, _, _⟩ := (ints_of_own o2).opened
        have b3 := Lib.hid (b2.alloc b2.size (.cells #[.slice a2 (resL c d k).length cp2] 30))
        have ho3 := Lib.hid (own_below o2 ((Below.refl w2.heap.size w2).alloc (Nat.le_refl _) (.cells #[.slice a2 (resL c d k).length cp2] 30)) (Nat.le_refl _))
        have hg3 := Lib.hid (hoh.out.below b3.out)
        have hnew := Lib.hid (cell_one_new w2 (.slice a2 (resL c d k).length cp2) 30)
        have hks := hg3.out.ks
        have hsucc := Lib.hid (show rvL c d (k + 1) = rvL c d k ++ [resL c d k] by rw [hsuc.out, hok, if_pos rfl])
        clear o2 b2 hok
        generalize resL c d k = RL at *
        go_wp2_with (at_builtin; refine wpList_append_own_at _ rfl _ _ 22 rfl w.heap.size 30 i0 (.slice none 0 0) 1 24 Try.underlying22 hi hz0 hz1 hz2 rfl (by decide) _ ss.length (ss.map slVI) rfl hg3.out.own ⟨w2.heap.size, 0, none⟩ 1 1 [.slice a2 RL.length cp2] rfl rfl hnew.out (by simp [Value.oneCell']) (by unfold maxLen; omega) (by omega) hks ?_; intro v2 w4 hown2 hgrow2 _ hblk2)
        go_roundw
        case rel =>
          refine ⟨k + 1, ss ++ [((a2, RL.length, cp2), RL)], by omega, by go_num, ?_, ?_, ?_⟩
          · exact hoh.out.add (s := ((a2, RL.length, cp2), RL)) b3.out ho3.out hown2 hgrow2 hblk2
          · refine Lib.hid ?_
            rw [List.map_append, hss.out, hsucc.out]; rfl
          · exact (hb.trans (b3.out.mono hoh.out.ks)).grown hgrow2 hks (fun j hj => (hg3.out.own.lt j hj).1)
        case measure => simp [intOf]; omega
    · obtain rfl : k = 6 := by omega
      obtain ⟨_, a, cp, b, o, rfl, _, _, _⟩ := ho.slices.opened
      have hsrt := Lib.hid (fun W => sortedListsOne_any a ss.length cp W hsl)
      clear ho
      go_wp2_with (go_at_call 17; refine (hsrt.out _).mono ?_; rintro e w' ⟨rfl, rfl⟩)
      go_ret
      exact ⟨_, rfl, by rw [← hss.out]; exact hoh.out.ownII, hb⟩
end Go.Proofs.Ytobbhflajkhcdaa
