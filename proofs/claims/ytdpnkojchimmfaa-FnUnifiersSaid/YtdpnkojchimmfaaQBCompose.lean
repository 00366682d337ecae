/- ComposeSubstitutions, of both. -/
import Derived.Test.YtdpnkojchimmfaaQBRowSS
import Derived.Test.YtdpnkojchimmfaaQBSubForm

namespace Go.Proofs.Ytdpnkojchimmfaa
open Go.RowKit

/-- A list of formulas under construction: the list and its elements lie in blocks of their own from K on. -/
structure Grow (K : Nat) (w : World) (v : Value) (ss : List Sl) : Prop where
  own : w.ownsRow K 27 1 v ss.length (ss.map slV)
  row : ∀ s ∈ ss, w.ownsRow K 41 2 (slV s) s.2.length (cellsN s.2)
  ap : ∀ s ∈ ss, ∀ k, v.ownBlock = some k → (slV s).ownBlock ≠ some k
  pw : ss.Pairwise fun s t => ∀ k, (slV s).ownBlock = some k → (slV t).ownBlock ≠ some k
  ks : K ≤ w.heap.size

theorem Grow.nil {K : Nat} {w : World} (h : K ≤ w.heap.size) : Grow K w (.slice none 0 0) [] := ⟨World.ownsRow_nil _ _ _ _, fun _ h => absurd h List.not_mem_nil, fun _ h => absurd h List.not_mem_nil, List.Pairwise.nil, h⟩
theorem Grow.below {K : Nat} {w w' : World} {v : Value} {ss : List Sl} (h : Grow K w v ss) (hb : Below w.heap.size w w') : Grow K w' v ss :=
  ⟨own_below h.own hb (Nat.le_refl _), fun s hs => own_below (h.row s hs) hb (Nat.le_refl _), h.ap, h.pw, Nat.le_trans h.ks hb.size⟩

/-- A formula in new memory is appended. -/
theorem Grow.add {K : Nat} {w w1 w2 : World} {v v1 : Value} {ss : List Sl} {s : Sl} (h : Grow K w v ss) (b : Below w.heap.size w w1) (hr : w1.ownsRow w.heap.size 41 2 (slV s) s.2.length (cellsN s.2))
    (ho : w2.ownsRow K 27 1 v1 (ss.length + 1) (ss.map slV ++ [slV s])) (hg : w1.grownBy w2 v.ownBlock) (hk : v1.ownBlock = v.ownBlock ∨ v1.ownBlock = some w1.heap.size) : Grow K w2 v1 (ss ++ [s]) := by
  have hv : ∀ k, v.ownBlock = some k → k < w.heap.size := own_lt h.own
  have hs : ∀ t ∈ ss, ∀ k, (slV t).ownBlock = some k → k < w.heap.size := fun t ht => own_lt (h.row t ht)
  have hn : ∀ k, (slV s).ownBlock = some k → w.heap.size ≤ k ∧ k < w1.heap.size := fun k hk => hr.lt k hk
  have hsz := b.size
  refine ⟨by rw [List.length_append, List.map_append]; exact ho, fun t ht => ?_, fun t ht k hk1 => ?_, ?_, Nat.le_trans h.ks (Nat.le_trans b.size hg.size)⟩
  · rcases List.mem_append.1 ht with ht | ht
    · exact row_same (own_below (h.row t ht) b (Nat.le_refl _)) fun k hk1 _ hl => hg.block k hl fun e => h.ap t ht k e.symm hk1
    · obtain rfl : t = s := by simpa using ht
      exact row_same (own_mono hr h.ks) fun k hk1 _ hl => hg.block k hl fun e => by
        have h1 := hv k e.symm
        have h2 := (hn k hk1).1
        omega
  · have hlt : ∀ j, (slV t).ownBlock = some j → j < w1.heap.size := by
      intro j hj
      rcases List.mem_append.1 ht with ht | ht
      · have := hs t ht j hj; omega
      · obtain rfl : t = s := by simpa using ht
        exact (hn j hj).2
    rcases hk with hk | hk
    · rw [hk] at hk1
      rcases List.mem_append.1 ht with ht | ht
      · exact h.ap t ht k hk1
      · obtain rfl : t = s := by simpa using ht
        intro e
        have h1 := hv k hk1
        have h2 := (hn k e).1
        omega
    · rw [hk] at hk1
      obtain rfl : w1.heap.size = k := by simpa using hk1
      intro e
      exact Nat.lt_irrefl _ (hlt _ e)
  · rw [List.pairwise_append]
    refine ⟨h.pw, List.pairwise_singleton _ _, fun t ht u hu k hk1 hk2 => ?_⟩
    obtain rfl : u = s := by simpa using hu
    have h1 := hs t ht k hk1
    have h2 := (hn k hk2).1
    omega

theorem Grow.slices {K : Nat} {w : World} {v : Value} {ss : List Sl} (h : Grow K w v ss) : Slices w v ss := reads_of_own h.own
theorem Grow.ownSS {K : Nat} {w : World} {v : Value} {ss : List Sl} (h : Grow K w v ss) : OwnSS K w.heap.size w v (ss.map Prod.snd) :=
  ownSS_of_sl h.slices h.row (fun s hs k hk => ⟨((h.row s hs).lt k hk).2, fun e => h.ap s hs k e hk⟩) h.pw (fun k hk => h.own.lt k hk) (Nat.le_refl _)

theorem OwnSS.mono {lo lo' hi : Nat} {w : World} {v : Value} {Is : List (List Nd)} (h : OwnSS lo hi w v Is) (hl : lo' ≤ lo) : OwnSS lo' hi w v Is := by
  obtain ⟨hs, h⟩ := h
  exact ⟨hs, h.out, h.len, fun j hd I h1 h2 => own_mono (h.row j hd I h1 h2) hl, h.lt, h.ap, fun k hk => ⟨Nat.le_trans hl (h.vlt k hk).1, (h.vlt k hk).2⟩, h.top⟩
theorem OwnSS.up {lo hi : Nat} {w : World} {v : Value} {Is : List (List Nd)} (h : OwnSS lo hi w v Is) (hl : hi ≤ w.heap.size) : OwnSS lo w.heap.size w v Is := by
  obtain ⟨hs, h⟩ := h
  exact ⟨hs, h.out, h.len, h.row, fun x hx k hk => ⟨Nat.lt_of_lt_of_le (h.lt x hx k hk).1 hl, (h.lt x hx k hk).2⟩, h.ap, fun k hk => ⟨(h.vlt k hk).1, Nat.lt_of_lt_of_le (h.vlt k hk).2 hl⟩, Nat.le_refl _⟩
theorem OwnSS.nil (w : World) (lo : Nat) : OwnSS lo w.heap.size w (.slice none 0 0) [] :=
  ⟨[], ⟨rfl, by simp, none, 0, 0, 0, rfl, Nat.le_refl _, by simp, by simp⟩, rfl, fun j h I h1 => by simp at h1, fun _ h => absurd h List.not_mem_nil, fun i j h h' k _ h1 => by simp at h1, fun k hk => by simp [Value.ownBlock] at hk, Nat.le_refl _⟩

/-- The images under a substitution of all formulas of a list. -/
def compL (one two : List (List Nd)) : List (List Nd) := one.map (subL two)
theorem compL_succ {one two : List (List Nd)} {k : Nat} {I : List Nd} (h : one[k]? = some I) : compL (one.take (k + 1)) two = compL (one.take k) two ++ [subL two I] := by
  unfold compL; rw [List.take_add_one, h]; simp
theorem compL_length (one two : List (List Nd)) : (compL one two).length = one.length := by simp [compL]

def okL (one : List (List Nd)) : Prop := ∀ I ∈ one, 0 < I.length ∧ I.length ≤ 40 ∧ I.all nodeB = true

set_option maxHeartbeats 2000000 in
theorem composed_any (v vi : Value) (one Is : List (List Nd)) (w : World) (h : Fs w v one) (hok : okL one) (hI : Fs w vi Is) (h6 : Is.length = 6) (hb0 : ∀ I ∈ Is, 0 < I.length ∧ I.length ≤ 1000) (hsm : one.length ≤ 1000000) :
    Calls Try.prog 34 #[v, vi] w fun e w' => ∃ v', e = .returned v' ∧ OwnSS w.heap.size w'.heap.size w' v' (compL one Is) ∧ Below w.heap.size w w' := by
  obtain ⟨i0, hi, hz0, hz1, hz2⟩ := info_parts info_nodes
  obtain ⟨a, c, b, o, rfl, hc, hm, ha, hcell⟩ := h.cells
  obtain ⟨bi, oi, ci, rfl, _, _⟩ := hI.get h6
  have hc2 := Lib.hid (fun (W : World) (hb : Below w.heap.size w W) (vI : Value) (I : List Nd) (hn : Nodes w vI I) (hmm : I ∈ one) (hcW : W.cell? ⟨w.heap.size, 0, none⟩ = some (.slice (some ⟨bi, oi, none⟩) 6 ci)) => withImages1_any w.heap.size vI _ I Is W (hn.below hb (Nat.le_refl _)) (hok I hmm).2.1 (hok I hmm).1 (hok I hmm).2.2 hcW (hI.below hb (Nat.le_refl _)) h6 hb0)
  have hlenS := Lib.hid (fun (I : List Nd) (hmm : I ∈ one) => show (subL Is I).length ≤ 40000 by
    have h1 := subL_len Is (fun I hI => (hb0 I hI).2) I
    have h2 := Nat.mul_le_mul_right 1000 (hok I hmm).2.1
    omega)
  have hah := Lib.hid ha
  clear h hok hI h6 hb0 ha hm
  go_enter Try.func34, Try.ntmps34
  go_wp2_with fail
  refine (withImages_any _ _ _ _).mono ?_
  rintro e w1 ⟨rfl, hcl, b1⟩
  have hclh := Lib.hid hcl
  have hwl := World.block_lt_of_cell? w1 _ hcl
  clear hcl
  have hs1 := b1.size
  go_wp2_with fail
  go_loopw [6, 13] (fun z i wr => ∃ (k : Nat) (ss : List Sl), k ≤ one.length ∧ i = .int .i64 k ∧ Grow w1.heap.size wr z ss ∧ Hid (ss.map Prod.snd = compL (one.take k) Is) ∧ Below w1.heap.size w1 wr) (fun _ i _ => one.length - (intOf i).toNat)
  case atStart => exact ⟨0, [], Nat.zero_le _, rfl, Grow.nil (Nat.le_refl _), rfl, Below.refl _ _⟩
  case round =>
    obtain ⟨k, ss, hk, rfl, ho, hss, hb⟩ := hrel
    have hssl : ss.length = k := by
      have := congrArg List.length hss.out
      rw [compL_length, List.length_map, List.length_take] at this
      omega
    by_cases hlt : k < one.length
    · obtain rfl := hah.out (by omega)
      obtain ⟨vI, I, hIk, hcI, hnI⟩ := hcell.out k hlt
      have hB := b1.trans (hb.mono hs1)
      have hcI := (hB.cell (p := ⟨b, o + k, none⟩) (World.block_lt_of_cell? w _ hcI)).trans hcI
      have hclW := (hb.cell (p := ⟨w.heap.size, 0, none⟩) hwl).trans hclh.out
      have hcall := Lib.hid (hc2.out wr hB vI I hnI (List.mem_of_getElem? hIk) hclW)
      have hsl := hlenS.out I (List.mem_of_getElem? hIk)
      have hcs := Lib.hid (compL_succ (two := Is) hIk)
      obtain ⟨a1, c1, rfl⟩ := hnI.shape
      clear hIk hnI hclW
      generalize subL Is I = R at *
      generalize hIl : I.length = m at *
      have hIl := Lib.hid hIl
      go_wp2_with fail
      refine hcall.out.mono ?_
      rintro e w2 ⟨v2, rfl, ho2, b2⟩
      obtain ⟨a2, c2, rfl⟩ := (nodes_of_own ho2).shape
      generalize hRl : R.length = N at *
      have hRl := Lib.hid hRl
      have b3 := Lib.hid (b2.alloc b2.size (.cells #[.slice a2 N c2] 27))
      have ho3 := Lib.hid (own_below ho2 ((Below.refl w2.heap.size w2).alloc (Nat.le_refl _) (.cells #[.slice a2 N c2] 27)) (Nat.le_refl _))
      have hg3 := Lib.hid (ho.below b3.out)
      have hnew := Lib.hid (cell_one_new w2 (.slice a2 N c2) 27)
      have hks := hg3.out.ks
      have hoh := Lib.hid ho
      clear ho ho2 b2
      go_wp2_with (at_builtin; refine wpList_append_own_at _ rfl _ _ 24 rfl w1.heap.size 27 i0 (.slice none 0 0) 1 24 Try.underlying24 hi hz0 hz1 hz2 rfl (by decide) _ ss.length (ss.map slV) rfl hg3.out.own ⟨w2.heap.size, 0, none⟩ 1 1 [.slice a2 N c2] rfl rfl hnew.out (by simp [Value.oneCell']) (by unfold maxLen; omega) (by omega) hks ?_; intro v2 w4 hown2 hgrow2 _ hblk2)
      go_roundw
      case rel =>
        refine ⟨k + 1, ss ++ [((a2, N, c2), R)], by omega, by go_num, ?_, ?_, ?_⟩
        · exact hoh.out.add (s := ((a2, N, c2), R)) b3.out (show World.ownsRow _ _ _ _ (.slice a2 N c2) R.length (cellsN R) by rw [hRl.out]; exact ho3.out) hown2 hgrow2 hblk2
        · show List.map _ _ = _
          rw [List.map_append, hss.out, hcs.out]; rfl
        · exact (hb.trans (b3.out.mono hoh.out.ks)).grown hgrow2 hks (fun j hj => (hg3.out.own.lt j hj).1)
      case measure => simp [intOf]; omega
    · obtain rfl : k = one.length := by omega
      have hfin := ho.ownSS
      rw [hss.out, List.take_length] at hfin
      have hfin := Lib.hid (hfin.mono hs1)
      clear ho
      go_wp2_with fail
      go_ret
      exact ⟨_, rfl, hfin.out, b1.trans (hb.mono hs1)⟩

set_option maxHeartbeats 2000000 in
theorem l03Then_any (v vi : Value) (one Is : List (List Nd)) (w : World) (h : Fs w v one) (hok : okL one) (hI : Fs w vi Is) (h6 : Is.length = 6) (hb0 : ∀ I ∈ Is, 0 < I.length ∧ I.length ≤ 1000) (hsm : one.length ≤ 1000000) :
    Calls Try.prog 61 #[v, vi] w fun e w' => ∃ v', e = .returned v' ∧ OwnSS w.heap.size w'.heap.size w' v' (compL one Is) ∧ Below w.heap.size w w' := by
  obtain ⟨i0, hi, hz0, hz1, hz2⟩ := info_parts info_nodes
  obtain ⟨a, c, b, o, rfl, hc, hm, ha, hcell⟩ := h.cells
  obtain ⟨bi, oi, ci, rfl, _, _⟩ := hI.get h6
  have hc2 := Lib.hid (fun (W : World) (hb : Below w.heap.size w W) (vI : Value) (I : List Nd) (hn : Nodes w vI I) (hmm : I ∈ one) => l03Sub_any vI _ I Is W (hn.below hb (Nat.le_refl _)) (hok I hmm).2.1 (hok I hmm).1 (hok I hmm).2.2 (hI.below hb (Nat.le_refl _)) h6 hb0)
  have hlenS := Lib.hid (fun (I : List Nd) (hmm : I ∈ one) => show (subL Is I).length ≤ 40000 by
    have h1 := subL_len Is (fun I hI => (hb0 I hI).2) I
    have h2 := Nat.mul_le_mul_right 1000 (hok I hmm).2.1
    omega)
  have hah := Lib.hid ha
  clear h hok hI h6 hb0 ha hm
  go_enter Try.func61, Try.ntmps61
  go_wp2_with fail
  go_loopw [5, 6] (fun z i wr => ∃ (k : Nat) (ss : List Sl), k ≤ one.length ∧ i = .int .i64 k ∧ Grow w.heap.size wr z ss ∧ Hid (ss.map Prod.snd = compL (one.take k) Is) ∧ Below w.heap.size w wr) (fun _ i _ => one.length - (intOf i).toNat)
  case atStart => exact ⟨0, [], Nat.zero_le _, rfl, ⟨World.ownsRow_lit w #[] 0 (Nat.le_refl _) (by simp [maxLen]) rfl, fun _ h => absurd h List.not_mem_nil, fun _ h => absurd h List.not_mem_nil, List.Pairwise.nil, by simp⟩, rfl, (Below.refl _ _).alloc (Nat.le_refl _) _⟩
  case round =>
    obtain ⟨k, ss, hk, rfl, ho, hss, hb⟩ := hrel
    have hssl : ss.length = k := by
      have := congrArg List.length hss.out
      rw [compL_length, List.length_map, List.length_take] at this
      omega
    by_cases hlt : k < one.length
    · obtain rfl := hah.out (by omega)
      obtain ⟨vI, I, hIk, hcI, hnI⟩ := hcell.out k hlt
      have hcI := (hb.cell (p := ⟨b, o + k, none⟩) (World.block_lt_of_cell? w _ hcI)).trans hcI
      have hcall := Lib.hid (hc2.out wr hb vI I hnI (List.mem_of_getElem? hIk))
      have hsl := hlenS.out I (List.mem_of_getElem? hIk)
      have hcs := Lib.hid (compL_succ (two := Is) hIk)
      obtain ⟨a1, c1, rfl⟩ := hnI.shape
      clear hIk hnI
      generalize subL Is I = R at *
      generalize hIl : I.length = m at *
      have hIl := Lib.hid hIl
      go_wp2_with fail
      refine hcall.out.mono ?_
      rintro e w2 ⟨v2, rfl, ho2, b2⟩
      obtain ⟨a2, c2, rfl⟩ := (nodes_of_own ho2).shape
      generalize hRl : R.length = N at *
      have hRl := Lib.hid hRl
      have b3 := Lib.hid (b2.alloc b2.size (.cells #[.slice a2 N c2] 27))
      have ho3 := Lib.hid (own_below ho2 ((Below.refl w2.heap.size w2).alloc (Nat.le_refl _) (.cells #[.slice a2 N c2] 27)) (Nat.le_refl _))
      have hg3 := Lib.hid (ho.below b3.out)
      have hnew := Lib.hid (cell_one_new w2 (.slice a2 N c2) 27)
      have hks := hg3.out.ks
      have hoh := Lib.hid ho
      clear ho ho2 b2
      go_wp2_with (at_builtin; refine wpList_append_own_at _ rfl _ _ 24 rfl w.heap.size 27 i0 (.slice none 0 0) 1 24 Try.underlying24 hi hz0 hz1 hz2 rfl (by decide) _ ss.length (ss.map slV) rfl hg3.out.own ⟨w2.heap.size, 0, none⟩ 1 1 [.slice a2 N c2] rfl rfl hnew.out (by simp [Value.oneCell']) (by unfold maxLen; omega) (by omega) hks ?_; intro v2 w4 hown2 hgrow2 _ hblk2)
      go_roundw
      case rel =>
        refine ⟨k + 1, ss ++ [((a2, N, c2), R)], by omega, by go_num, ?_, ?_, ?_⟩
        · exact hoh.out.add (s := ((a2, N, c2), R)) b3.out (show World.ownsRow _ _ _ _ (.slice a2 N c2) R.length (cellsN R) by rw [hRl.out]; exact ho3.out) hown2 hgrow2 hblk2
        · show List.map _ _ = _
          rw [List.map_append, hss.out, hcs.out]; rfl
        · exact (hb.trans (b3.out.mono hoh.out.ks)).grown hgrow2 hks (fun j hj => (hg3.out.own.lt j hj).1)
      case measure => simp [intOf]; omega
    · obtain rfl : k = one.length := by omega
      have hfin := ho.ownSS
      rw [hss.out, List.take_length] at hfin
      have hfin := Lib.hid hfin
      clear ho
      go_wp2_with fail
      go_ret
      exact ⟨_, rfl, hfin.out, hb⟩
end Go.Proofs.Ytdpnkojchimmfaa
