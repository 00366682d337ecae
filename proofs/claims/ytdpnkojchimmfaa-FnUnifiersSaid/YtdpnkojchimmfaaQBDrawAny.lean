/- What the laws draw out of a code: formulas and substitutions. -/
import Derived.Test.YtdpnkojchimmfaaQBDrawBend
import Derived.Test.YtdpnkojchimmfaaQBMatchTwo
import Derived.Test.YtdpnkojchimmfaaQBUnifMath
import Derived.Deep.LoopGhost

namespace Go.Proofs.Ytdpnkojchimmfaa
open Go.RowKit Go.Deep
set_option linter.unusedVariables false

theorem Grow.turned {K b : Nat} {w w' : World} {v : Value} {ss : List Sl} (h : Grow K w v ss) (ht : Turned b (b + 1) w w') (hb : b < K) : Grow K w' v ss :=
  ⟨row_same h.own fun k _ hB hl => ht.block k hl (.inr (by omega)), fun s hs => row_same (h.row s hs) fun k _ hB hl => ht.block k hl (.inr (by omega)), h.ap, h.pw, Nat.le_trans h.ks ht.size⟩
theorem Grow.lay {K b g n cap u : Nat} {w w1 : World} {ss : List Sl} {s : Sl} (h : Grow K w (.slice (some ⟨g, 0, none⟩) n cap) ss) (hsn : ss.length = n) (ht : Turned b (b + 1) w w1) (hbK : b < K) (hr : w1.ownsRow w.heap.size 41 2 (slV s) s.2.length (cellsN s.2)) :
    Grow K (w1.setCell ⟨g, u, none⟩ (slV s)) (.slice (some ⟨g, 0, none⟩) n cap) (ss.set u s) := by
  have hg := grown_set w1 g u (slV s)
  have hgl : g < w.heap.size := own_lt h.own g rfl
  have hn : ∀ k, (slV s).ownBlock = some k → w.heap.size ≤ k ∧ k < w1.heap.size := fun k hk => hr.lt k hk
  have hold : ∀ t ∈ ss, ∀ k, (slV t).ownBlock = some k → k < w.heap.size := fun t ht => own_lt (h.row t ht)
  have hT := h.turned ht hbK
  refine ⟨?_, fun t ht' => ?_, fun t ht' k hk => ?_, ?_, Nat.le_trans h.ks (Nat.le_trans ht.size hg.size)⟩
  · have h0 := hT.own
    rw [hsn] at h0
    have h1 := (h0.stored u (slV s)).1
    rw [List.length_set, List.map_set, hsn]
    exact h1
  · rcases List.mem_or_eq_of_mem_set ht' with ht' | rfl
    · exact row_same (hT.row t ht') fun k hk _ hl => hg.block k hl fun e => by
        obtain rfl : k = g := by simpa using e
        exact h.ap t ht' k rfl hk
    · exact row_same (own_mono hr h.ks) fun k hk _ hl => hg.block k hl fun e => by
        obtain rfl : k = g := by simpa using e
        have := (hn _ hk).1
        omega
  · obtain rfl : g = k := by simpa [Value.ownBlock] using hk
    rcases List.mem_or_eq_of_mem_set ht' with ht' | rfl
    · exact h.ap t ht' g rfl
    · intro e
      have := (hn _ e).1
      omega
  · rw [List.pairwise_iff_getElem]
    intro i j hi hj hij k hk1 hk2
    rw [List.length_set] at hi hj
    have hp := List.pairwise_iff_getElem.1 h.pw i j hi hj hij k
    rw [List.getElem_set] at hk1 hk2
    split at hk1
    · split at hk2
      · omega
      · have h1 := (hn k hk1).1
        have h2 := hold _ (List.getElem_mem hj) k hk2
        omega
    · split at hk2
      · have h1 := (hn k hk2).1
        have h2 := hold _ (List.getElem_mem hi) k hk1
        omega
      · exact hp hk1 hk2

set_option maxHeartbeats 1000000 in
theorem l03SelfG_any (w : World) :
    Calls Try.prog 56 #[] w fun e w' => ∃ v ss, e = .returned v ∧ Grow w.heap.size w' v ss ∧ ss.map Prod.snd = selfL 6 ∧ Below w.heap.size w w' := by
  obtain ⟨i0, hi, hz0, hz1, hz2⟩ := info_parts info_nodes
  go_enter Try.func56, Try.ntmps56
  go_wp2_with fail
  go_loopw [1, 2] (fun v i wr => ∃ (k : Nat) (ss : List Sl), k ≤ 6 ∧ i = .int .i64 k ∧ Grow w.heap.size wr v ss ∧ Hid (ss.map Prod.snd = selfL k) ∧ Below w.heap.size w wr) (fun _ i _ => 6 - (intOf i).toNat)
  case atStart => exact ⟨0, [], by omega, rfl, ⟨World.ownsRow_lit w #[] 0 (Nat.le_refl _) (by simp [maxLen]) rfl, fun _ h => absurd h List.not_mem_nil, fun _ h => absurd h List.not_mem_nil, List.Pairwise.nil, by simp⟩, rfl, (Below.refl _ _).alloc (Nat.le_refl _) _⟩
  case round =>
    obtain ⟨k, ss, hk, rfl, ho, hss, hb⟩ := hrel
    have hsl : ss.length ≤ 6 := by have := congrArg List.length hss.out; simp [selfL] at this; omega
    by_cases hlt : k < 6
    · have hki : (k : Int) < 6 := by omega
      go_wp2_with fail
      refine (l02VarH_any _ _).mono ?_
      rintro e w2 ⟨rfl, ho2, b2⟩
      have b3 := Lib.hid (b2.alloc b2.size (.cells #[.slice (some ⟨wr.heap.size, 0, none⟩) 1 1] 27))
      have ho3 := Lib.hid (own_below ho2 ((Below.refl w2.heap.size w2).alloc (Nat.le_refl _) (.cells #[.slice (some ⟨wr.heap.size, 0, none⟩) 1 1] 27)) (Nat.le_refl _))
      have hg3 := Lib.hid (ho.below b3.out)
      have hnew := Lib.hid (cell_one_new w2 (.slice (some ⟨wr.heap.size, 0, none⟩) 1 1) 27)
      have hks := hg3.out.ks
      have hoh := Lib.hid ho
      clear ho ho2 b2
      go_wp2_with (at_builtin; refine wpList_append_own_at _ rfl _ _ 24 rfl w.heap.size 27 i0 (.slice none 0 0) 1 24 Try.underlying24 hi hz0 hz1 hz2 rfl (by decide) _ ss.length (ss.map slV) rfl hg3.out.own ⟨w2.heap.size, 0, none⟩ 1 1 [.slice (some ⟨wr.heap.size, 0, none⟩) 1 1] rfl rfl hnew.out (by simp [Value.oneCell']) (by unfold maxLen; omega) (by omega) hks ?_; intro v2 w4 hown2 hgrow2 _ hblk2)
      go_roundw
      case rel =>
        refine ⟨k + 1, ss ++ [((some ⟨wr.heap.size, 0, none⟩, 1, 1), [(0, (k : Int))])], by omega, by go_num, ?_, ?_, ?_⟩
        · exact hoh.out.add (s := ((some ⟨wr.heap.size, 0, none⟩, 1, 1), [(0, (k : Int))])) b3.out ho3.out hown2 hgrow2 hblk2
        · show List.map _ _ = _
          rw [List.map_append, hss.out, selfL_succ]; rfl
        · exact (hb.trans (b3.out.mono hoh.out.ks)).grown hgrow2 hks (fun j hj => (hg3.out.own.lt j hj).1)
      case measure => simp [intOf]; omega
    · obtain rfl : k = 6 := by omega
      have ho := Lib.hid ho
      go_wp2_with fail
      go_ret
      exact ⟨_, ss, rfl, ho.out, hss.out, hb⟩

set_option maxHeartbeats 4000000 in
theorem l02Any_any (w0 : World) (b : Nat) (cv : Value) (zs : List Int) (vars : Int) (hB : Bytes w0 cv zs) (hL : zs.length ≤ 4096) (hv1 : 1 ≤ vars) (hv2 : vars ≤ 6) (n : Int) (h1 : 1 ≤ n) (h40 : n ≤ 40) (w : World) (hs : St w0 b cv zs.length w) :
    Calls Try.prog 39 #[.pointer (some ⟨b, 0, none⟩), .int .i64 n, .int .i64 vars, .bool true] w fun e w' => (∃ v ns, e = .returned v ∧ Hid (MadeZ w.heap.size w' v ns 100)) ∧ Hid (St w0 b cv zs.length w') ∧ Hid (Turned b (b + 1) w w') := by
  have hnext := Lib.hid (fun (k : Int) (W : World) (hW : St w0 b cv zs.length W) (k1 : 1 ≤ k) (k2 : k ≤ 9223372036854775807) => l01Next_any w0 b cv zs k W hB hW k1 k2 hL)
  have hdraw := Lib.hid (fun (m : Int) (m1 : 1 ≤ m) (m2 : m ≤ 100) (W : World) (hW : St w0 b cv zs.length W) => l02Draw_any w0 b cv zs vars hB hL hv1 hv2 100 m m1 (by omega) m2 W hW)
  have hbend := Lib.hid (fun (v : Value) (ns : List Nd) (W : World) (hW : St w0 b cv zs.length W) (h : Nodes W v ns) (hp : 0 < ns.length) (hn : ns.length ≤ 1000) => l02Bend_any w0 b cv zs hB hL v ns W hW h hp hn)
  have hbl := hs.lt
  have hs := Lib.hid hs
  clear hB
  go_enter Try.func39, Try.ntmps39
  go_wp2_with fail
  refine (hdraw.out n (by omega) (by omega) _ hs.out).mono ?_
  rintro e w1 ⟨⟨v1, ns1, rfl, hm1⟩, hs1, t1⟩
  have hz1 := t1.out.size
  have hl1 := hm1.out.le
  have hp1 := hm1.out.pos
  clear hs
  go_wp2_with fail
  refine (hnext.out 40 _ hs1.out (by omega) (by omega)).mono ?_
  rintro e w2 ⟨⟨x, rfl, x0, x1⟩, hs2, t2⟩
  have hz2 := t2.size
  have hs2 := Lib.hid hs2
  have hm2 := Lib.hid (hm1.out.turned t2 hbl)
  have t2 := Lib.hid (t1.out.trans t2)
  clear hs1 t1 hm1
  by_cases h0 : x = 0
  · subst h0
    go_wp2_with fail
    refine (hbend.out _ ns1 _ hs2.out (nodes_of_own hm2.out.own) hp1 (by omega)).mono ?_
    rintro e w3 ⟨⟨v3, ns3, rfl, hm3⟩, hs3, t3⟩
    have hm3 := Lib.hid (hm3.out.mono (show w.heap.size ≤ w2.heap.size by omega) (show (ns1.length : Int) + 1 ≤ 100 by omega))
    have t3 := Lib.hid (t2.out.trans t3.out)
    clear hm2 hs2 t2
    go_wp2_with fail
    go_ret
    exact ⟨⟨_, _, rfl, hm3⟩, hs3, t3⟩
  · have e0 : (x == 0) = false := by rw [beq_eq_false_iff_ne]; exact h0
    clear h0
    by_cases h1 : x = 1
    · subst h1
      clear e0
      go_wp2_with fail
      go_loopg [9] 60 (fun n v wr => ∃ ns : List Nd, Hid (Made w.heap.size wr v ns 47) ∧ 47 ≤ ns.length + n ∧ Hid (St w0 b cv zs.length wr) ∧ Hid (Turned b (b + 1) w wr))
      case atStart => exact ⟨ns1, Lib.hid (hm2.out.mono (Nat.le_refl _) (by omega)), by omega, hs2, t2⟩
      case round =>
        clear hm2 hs2 t2
        obtain ⟨ns, hm, hgk, hs, ht⟩ := hrel
        have hlen := hm.out.le
        have hpos := hm.out.pos
        have hzr := ht.out.size
        obtain ⟨a9, c9, hv9⟩ := (nodes_of_own hm.out.own).shape
        subst hv9
        generalize hnl : ns.length = nl at *
        replace hnl := Lib.hid hnl
        by_cases h40n : 40 < nl
        · have h40i : (40 : Int) < (nl : Int) := by omega
          have hfin := Lib.hid (hm.out.z.mono (Nat.le_refl _) (show (47 : Int) ≤ 100 by omega))
          clear h40n
          go_wp2_with fail
          go_ret
          first | exact ⟨⟨_, _, rfl, hfin⟩, hs, ht⟩ | exact ⟨⟨_, rfl, _, hfin⟩, hs, ht⟩
        · have h40i : ¬ ((40 : Int) < (nl : Int)) := by omega
          go_wp2_with fail
          refine (hnext.out 60 _ hs.out (by omega) (by omega)).mono ?_
          rintro e w3 ⟨⟨y, rfl, y0, y1⟩, hs3, t3⟩
          have hz3 := t3.size
          have hs3 := Lib.hid hs3
          have hm3 := Lib.hid (hm.out.turned t3 hbl)
          have t3 := Lib.hid (ht.out.trans t3)
          clear hm hs ht
          by_cases hy : 0 < y
          · go_wp2_with fail
            refine (hnext.out 3 _ hs3.out (by omega) (by omega)).mono ?_
            rintro e w4 ⟨⟨z, rfl, z0, z1⟩, hs4, t4⟩
            have hz4 := t4.size
            have hs4 := Lib.hid hs4
            have hm4 := Lib.hid (hm3.out.turned t4 hbl)
            have t4 := Lib.hid (t3.out.trans t4)
            clear hm3 hs3 t3
            go_wp2_with fail
            refine (hdraw.out 6 (by omega) (by omega) _ hs4.out).mono ?_
            rintro e w5 ⟨⟨v5, ns5, rfl, hm5⟩, hs5, t5⟩
            have hz5 := t5.out.size
            have hl5 := hm5.out.le
            have hp5 := hm5.out.pos
            have hm4 := Lib.hid (hm4.out.turned t5.out hbl)
            have t5 := Lib.hid (t4.out.trans t5.out)
            clear hs4 t4
            have hn4 := Lib.hid (nodes_of_own hm4.out.own)
            go_wp2_with fail
            refine (l02Pair_any _ _ _ ns ns5 _ hn4.out (nodes_of_own hm5.out.own) (by have := hnl.out; omega) hp5 (by have := hnl.out; omega) (by omega)).mono ?_
            rintro e w6 ⟨v6, rfl, o6, b6⟩
            have hlen6 : ∀ k : Int, ((k, 0) :: ns ++ ns5 : List Nd).length = 1 + ns.length + ns5.length := fun k => by simp; omega
            have hn9 := hnl.out
            have hm6 := Lib.hid (Made.mk (m := 47) (own_mono (by rw [hlen6]; exact o6) (show w.heap.size ≤ w5.heap.size by omega)) (by simp) (by rw [hlen6]; omega))
            have hs6 := Lib.hid (hs5.out.below b6 (Nat.le_refl _))
            have t6 := Lib.hid (t5.out.trans (Turned.of_below b6 (Nat.le_refl _)))
            have hl6 := hlen6 (2 + z)
            clear o6 b6 hm5 hs5 t5 hm4 hn4
            go_wp2_with fail
            go_roundg (gk - 1)
            case measure => omega
            case rel => exact ⟨_, hm6, by rw [hl6]; omega, hs6, t6⟩
          · have hfin := Lib.hid (hm3.out.z.mono (Nat.le_refl _) (show (47 : Int) ≤ 100 by omega))
            go_wp2_with fail
            go_ret
            first | exact ⟨⟨_, _, rfl, hfin⟩, hs3, t3⟩ | exact ⟨⟨_, rfl, _, hfin⟩, hs3, t3⟩
    · have e1 : (x == 1) = false := by rw [beq_eq_false_iff_ne]; exact h1
      clear h1
      have hfin := Lib.hid (hm2.out.z.mono (Nat.le_refl _) (show n ≤ 100 by omega))
      go_wp2_with fail
      go_ret
      first | exact ⟨⟨_, _, rfl, hfin⟩, hs2, t2⟩ | exact ⟨⟨_, rfl, _, hfin⟩, hs2, t2⟩
end Go.Proofs.Ytdpnkojchimmfaa
