/- Walks of ReplaceVariable, of the reference. -/
import Derived.Test.YtdpnkojchimmfaaQBReplM

namespace Go.Proofs.Ytdpnkojchimmfaa
open Go.RowKit

set_option maxHeartbeats 1000000 in
theorem l02Own_any (v : Value) (ns : List Nd) (w : World) (h : Nodes w v ns) (hp : 0 < ns.length) (hn : ns.length ≤ 1000) :
    Calls Try.prog 50 #[v] w fun e w' => ∃ v', e = .returned v' ∧ w'.ownsRow w.heap.size 41 2 v' ns.length (cellsN ns) ∧ Below w.heap.size w w' := by
  obtain ⟨i0, hi, hz0, hz1, hz2⟩ := info_parts info_node
  obtain ⟨c, b, o, rfl, hc, hcm, hcell⟩ := h.raw hp
  have hlen := Lib.hid (cellsN_length ns)
  have hl0 := Lib.hid (World.ownsRow_lit (e := 41) (base := w.heap.size) (size := 2) w #[] 0 (Nat.le_refl _) (by simp [maxLen]) rfl)
  have hba := Lib.hid ((Below.refl w.heap.size w).alloc (Nat.le_refl _) (.cells #[] 41))
  have hsrc := Lib.hid (nodes_src (cells_below hcell.out hba.out (Nat.le_refl _)))
  have hone := Lib.hid (nodes_oneCell ns)
  clear h
  generalize hm : ns.length = m at *
  have hm := Lib.hid hm
  go_enter Try.func50, Try.ntmps50
  go_wp2_with (at_builtin; refine wpList_append_own _ rfl _ _ 27 rfl w.heap.size 41 i0 (.agg #[.int .i64 0, .int .i64 0]) 2 16 Try.underlying27 hi hz0 hz1 hz2 rfl (by decide) _ _ _ rfl hl0.out ⟨b, o, none⟩ m c (cellsN ns) rfl hlen.out hsrc.out hone.out (by unfold maxLen; omega) (by omega) (by simp) ?_; intro v' w1 hown' hgrow _)
  go_ret
  refine ⟨v', rfl, ?_, hba.out.grown hgrow (by simp) (fun j hj => (hl0.out.lt j hj).1)⟩
  rw [Nat.zero_add] at hown'
  exact hown'

set_option maxHeartbeats 1000000 in
theorem l03Self_any (w : World) :
    Calls Try.prog 56 #[] w fun e w' => ∃ v ss, e = .returned v ∧ OwnFs w.heap.size w' v ss ∧ ss.map (·.2) = selfL 6 ∧ Below w.heap.size w w' := by
  obtain ⟨i0, hi, hz0, hz1, hz2⟩ := info_parts info_nodes
  go_enter Try.func56, Try.ntmps56
  go_wp2_with fail
  go_loopw [1, 2] (fun v i wr => ∃ (k : Nat) (ss : List Sl), k ≤ 6 ∧ i = .int .i64 k ∧ OwnFs w.heap.size wr v ss ∧ Hid (ss.map (·.2) = selfL k) ∧ Below w.heap.size w wr) (fun _ i _ => 6 - (intOf i).toNat)
  case atStart => exact ⟨0, [], by omega, rfl, ⟨World.ownsRow_lit w #[] 0 (Nat.le_refl _) (by simp [maxLen]) rfl, fun _ h => absurd h List.not_mem_nil, fun _ h => absurd h List.not_mem_nil, fun _ h => absurd h List.not_mem_nil, by simp⟩, rfl, (Below.refl _ _).alloc (Nat.le_refl _) _⟩
  case round =>
    obtain ⟨k, ss, hk, rfl, ho, hss, hb⟩ := hrel
    have hsl : ss.length ≤ 6 := by have := congrArg List.length hss.out; simp [selfL] at this; omega
    by_cases hlt : k < 6
    · have hki : (k : Int) < 6 := by omega
      go_wp2_with fail
      refine (l02Var_any _ _).mono ?_
      rintro e w1 ⟨rfl, hn1, b1, hs1⟩
      have hw1 := Lib.hid hs1
      have hst := Lib.hid (ho.below b1)
      have hst2 := Lib.hid (hst.out.below ((Below.refl w1.heap.size w1).alloc (Nat.le_refl _) (.cells #[.slice (some ⟨wr.heap.size, 0, none⟩) 1 1] 27)))
      have hn2 := Lib.hid (hn1.below ((Below.refl w1.heap.size w1).alloc (Nat.le_refl _) (.cells #[.slice (some ⟨wr.heap.size, 0, none⟩) 1 1] 27)) (Nat.le_refl _))
      have hnew := Lib.hid (cell_one_new w1 (.slice (some ⟨wr.heap.size, 0, none⟩) 1 1) 27)
      have hlt2 := Lib.hid ho.own.lt
      have B1 := Lib.hid (hb.trans (b1.mono ho.ks))
      have hks := hst2.out.ks
      clear ho hb b1 hn1 hs1
      go_wp2_with (at_builtin; refine wpList_append_own_at _ rfl _ _ 24 rfl w.heap.size 27 i0 (.slice none 0 0) 1 24 Try.underlying24 hi hz0 hz1 hz2 rfl (by decide) _ ss.length (ss.map slV) rfl hst2.out.own ⟨w1.heap.size, 0, none⟩ 1 1 [.slice (some ⟨wr.heap.size, 0, none⟩) 1 1] rfl rfl hnew.out (by simp [Value.oneCell']) (by unfold maxLen; omega) (by omega) hks ?_; intro v2 w2 hown2 hgrow2 _ hblk2)
      go_roundw
      case rel =>
        refine ⟨k + 1, ss ++ [((some ⟨wr.heap.size, 0, none⟩, 1, 1), [(0, (k : Int))])], by omega, by go_num, ?_, ?_, ?_⟩
        · refine hst2.out.push (s := ((some ⟨wr.heap.size, 0, none⟩, 1, 1), [(0, (k : Int))])) hn2.out ?_ ?_ hown2 hgrow2 hblk2
          · intro j hj
            obtain rfl : wr.heap.size = j := by simpa [slV, Value.ownBlock] using hj
            have := hw1.out
            simp; omega
          · intro j hj e
            obtain rfl : wr.heap.size = j := by simpa [slV, Value.ownBlock] using e
            exact Nat.lt_irrefl _ (hlt2.out _ hj).2
        · show List.map _ _ = _
          rw [List.map_append, hss.out, selfL_succ]; rfl
        · exact (B1.out.alloc (by have := hst.out.ks; exact this) _).grown hgrow2 hks (fun j hj => (hst2.out.own.lt j hj).1)
      case measure => simp [intOf]; omega
    · obtain rfl : k = 6 := by omega
      have ho := Lib.hid ho
      go_wp2_with fail
      go_ret
      exact ⟨_, ss, rfl, ho.out, hss.out, hb⟩

set_option maxHeartbeats 1000000 in
theorem l03Bind_any (u : Nat) (hu : u < 6) (vb : Value) (bs : List Nd) (w : World) (h : Nodes w vb bs) (hp : 0 < bs.length) (hn : bs.length ≤ 1000) :
    Calls Try.prog 60 #[.int .i64 (u : Int), vb] w fun e w' => ∃ v, e = .returned v ∧ Fs w' v ((selfL 6).set u bs) ∧ Below w.heap.size w w' := by
  have hv := Lib.hid h
  have hui : (u : Int) < 6 := by omega
  clear h
  go_enter Try.func60, Try.ntmps60
  go_wp2_with fail
  refine (l03Self_any _).mono ?_
  rintro e w1 ⟨v1, ss, rfl, ho, hss, b1⟩
  have hsl : ss.length = 6 := by have := congrArg List.length hss; simpa [selfL] using this
  obtain ⟨g, cap, rfl, hgK, hgl⟩ := ho.open (by omega)
  have hoh := Lib.hid ho
  have hssh := Lib.hid hss
  have b1h := Lib.hid b1
  have hgKh := Lib.hid hgK
  have hglh := Lib.hid hgl
  have hslh := Lib.hid hsl
  clear ho hss b1 hgK hgl
  rw [hsl]
  clear hsl
  go_wp2_with fail
  refine (l02Own_any vb bs _ (hv.out.below b1h.out (Nat.le_refl _)) hp hn).mono ?_
  rintro e w2 ⟨v2, rfl, ho2, b2⟩
  have hn2 := nodes_of_own ho2
  obtain ⟨kb, hkb, hkl⟩ := own_blockN hn2 hp
  have hkw := (ho2.lt kb hkb).1
  obtain ⟨a, c, rfl⟩ := hn2.shape
  have ho' := Lib.hid (hoh.out.below b2)
  obtain ⟨⟨z, _, hcz⟩, hfz⟩ := own_cell ho'.out.own (k := u) (by have := hslh.out; omega)
  obtain ⟨⟨za, zn, zc⟩, zl⟩ := z
  unfold slV at hcz
  simp only at hcz
  have hset := Lib.hid (ho'.out.set (u := u) (s := ((a, bs.length, c), bs)) (by have := hslh.out; omega) hn2 (by
    show (slV ((a, bs.length, c), bs)).ownBlock ≠ some g
    rw [show (slV ((a, bs.length, c), bs)).ownBlock = some kb from hkb]
    intro e
    have h2 : kb = g := by simpa using e
    have := hglh.out
    omega))
  have hb2 := Lib.hid ((b1h.out.trans (b2.mono b1h.out.size)).setCell (p := ⟨g, u, none⟩) hgKh.out (.slice a bs.length c))
  rw [hslh.out] at hset
  clear ho2 b2 hn2 hkb hkl hkw hp hn
  generalize hmb : bs.length = mb at *
  have hmb := Lib.hid hmb
  go_wp2_with fail
  go_ret
  refine ⟨_, rfl, ?_, hb2.out⟩
  rw [← hssh.out]
  exact hset.out
end Go.Proofs.Ytdpnkojchimmfaa
