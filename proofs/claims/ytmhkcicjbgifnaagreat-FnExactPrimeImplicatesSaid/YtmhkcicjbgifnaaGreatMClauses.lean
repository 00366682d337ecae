/- spec.l04Clauses: all clauses in the order of their lengths. -/
import Derived.Test.YtmhkcicjbgifnaaGreatMBfsMath
import Derived.Test.YtmhkcicjbgifnaaGreatMKeyFnsM
import Derived.Test.YtmhkcicjbgifnaaGreatMListFns
import Derived.Test.YtmhkcicjbgifnaaGreatMTermM
import Derived.IntWalk
import Derived.RangeFuncBox

namespace Go.Proofs.YtmhkcicjbgifnaaGreat
open Go.RowKit Go.Deep
set_option linter.unusedVariables false
set_option linter.unusedSimpArgs false

theorem GrowI.pos {K : Nat} {w : World} {v : Value} {ss : List SlI} (h : GrowI K w v ss) (h0 : 0 < ss.length) : ∃ g cap, v = .slice (some ⟨g, 0, none⟩) ss.length cap ∧ ss.length ≤ cap ∧ ss.length ≤ maxLen ∧ ∀ i s, ss[i]? = some s → w.cell? ⟨g, i, none⟩ = some (slVI s) := by
  have h1 := h.own
  rcases h1.2 with ⟨h2, _⟩ | ⟨g, cap, cur, rfl, hB, hg, hc, hm, _⟩
  · omega
  · refine ⟨g, cap, rfl, by omega, by omega, fun i s hs => ?_⟩
    have hi := (List.getElem?_eq_some_iff.1 hs).1
    rw [h1.cellAt i (by omega), List.getElem?_map, hs]; rfl
theorem grow_first (w : World) : GrowI w.heap.size ((w.alloc (.cells #[] 2)).alloc (.cells #[.slice (some ⟨w.heap.size, 0, none⟩) 0 0] 48)) (.slice (some ⟨w.heap.size + 1, 0, none⟩) 1 1) [((some ⟨w.heap.size, 0, none⟩, 0, 0), [])] := by
  have h1 := World.ownsRow_lit (e := 2) (base := w.heap.size) (size := 1) w #[] 0 (Nat.le_refl _) (by simp [maxLen]) rfl
  have h2 := World.ownsRow_lit (e := 48) (base := w.heap.size) (size := 1) (w.alloc (.cells #[] 2)) #[.slice (some ⟨w.heap.size, 0, none⟩) 0 0] 1 (by simp) (by simp [maxLen]) rfl
  have hs : (w.alloc (.cells #[] 2)).heap.size = w.heap.size + 1 := by simp
  rw [hs] at h2
  refine ⟨h2, fun s hs => ?_, fun s hs k hk => ?_, List.pairwise_singleton _ _, by simp; omega⟩
  · obtain rfl : s = ((some ⟨w.heap.size, 0, none⟩, 0, 0), []) := by simpa using hs
    exact own_below h1 ((Below.refl _ _).alloc (Nat.le_refl _) _) (Nat.le_refl _)
  · obtain rfl : s = ((some ⟨w.heap.size, 0, none⟩, 0, 0), []) := by simpa using hs
    simp [Value.ownBlock] at hk
    subst hk
    simp [slVI, Value.ownBlock]
theorem GrowI.drewN {K : Nat} {w : World} {v : Value} {ss : List SlI} (h : GrowI K w v ss) (n : Nat) : GrowI K (w.drewN n) v ss := h.below (below_drewN (Below.refl _ _) n)
/-- Where the inner loop stands. -/
structure ClsSt (K : Nat) (w wq : World) (v : Value) (ss : List SlI) (k : Nat) (s : SlI) (lit : Int) : Prop where
  g : GrowI K wq v ss
  b : BfsSt (ss.map Prod.snd) k lit
  at' : ss[k]? = some s
  lo : nextL s.2 ≤ lit
  hi : lit ≤ 12
theorem ClsSt.map_at {K : Nat} {w wq : World} {v : Value} {ss : List SlI} {k : Nat} {s : SlI} {lit : Int} (h : ClsSt K w wq v ss k s lit) : (ss.map Prod.snd)[k]? = some s.2 := by rw [List.getElem?_map, h.at']; rfl
theorem ClsSt.len {K : Nat} {w wq : World} {v : Value} {ss : List SlI} {k : Nat} {s : SlI} {lit : Int} (h : ClsSt K w wq v ss k s lit) : k < ss.length ∧ ss.length ≤ 4096 ∧ s.2.length ≤ 12 ∧ 0 ≤ lit := by
  have h1 := h.b.len
  rw [List.length_map] at h1
  have h2 := h.b.cl s.2 (List.mem_of_getElem? h.map_at)
  exact ⟨(List.getElem?_eq_some_iff.1 h.at').1, h1, clause_len h2, Int.le_trans (nextL_bounds h2).1 h.lo⟩
theorem ClsSt.add {K : Nat} {w wq w4 w5 : World} {v v5 : Value} {ss : List SlI} {k : Nat} {s r : SlI} {lit : Int} (h : ClsSt K w wq v ss k s lit) (hl : lit ≤ 11) (b : Below wq.heap.size wq w4)
    (hr : w4.ownsRow wq.heap.size 2 1 (slVI r) r.2.length (r.2.map (Value.int .i64))) (hrl : r.2 = s.2 ++ [lit])
    (ho : w5.ownsRow K 48 1 v5 (ss.length + 1) (ss.map slVI ++ [slVI r])) (hg : w4.grownBy w5 v.ownBlock) (hk : v5.ownBlock = v.ownBlock ∨ v5.ownBlock = some w4.heap.size) : ClsSt K w w5 v5 (ss ++ [r]) k s (lit + 1) := by
  refine ⟨h.g.add b hr ho hg hk, ?_, ?_, by have := h.lo; omega, by omega⟩
  · rw [List.map_append, List.map_singleton, hrl]
    exact h.b.add h.map_at h.lo hl
  · rw [List.getElem?_append_left h.len.1]; exact h.at'

set_option maxHeartbeats 8000000 in
set_option maxRecDepth 100000 in
theorem l04Clauses_any (w : World) :
    Calls Tryz.prog 31 #[] w fun e w' => ∃ (v' : Value) (ss : List SlI), e = .returned v' ∧ GrowI w.heap.size w' v' ss ∧ Hid (AllCl (ss.map Prod.snd)) ∧ Hid (ss.length ≤ 4096) ∧ Below w.heap.size w w' := by
  obtain ⟨i0, hi, hz0, hz1, hz2⟩ := info_parts info_ints
  obtain ⟨j0, hj, jz0, jz1, jz2⟩ := info_parts info_i64
  have hg0 := Lib.hid (grow_first w)
  have hb0 := Lib.hid (show Below w.heap.size w ((w.alloc (.cells #[] 2)).alloc (.cells #[.slice (some ⟨w.heap.size, 0, none⟩) 0 0] 48)) from ((Below.refl _ w).alloc (Nat.le_refl _) _).alloc (by simp) _)
  go_enter Tryz.func31, Tryz.ntmps31
  go_wp2_with fail
  go_loopw [1, 2] (fun v i wr => ∃ (k : Nat) (ss : List SlI), k ≤ ss.length ∧ i = .int .i64 k ∧ Hid (GrowI w.heap.size wr v ss) ∧ Hid (BfsSt (ss.map Prod.snd) k 0) ∧ Below w.heap.size w wr) (fun _ i _ => 4096 - (intOf i).toNat)
  case atStart => exact ⟨0, _, by simp, rfl, hg0, Lib.hid BfsSt.start, hb0.out⟩
  case round =>
    clear hg0 hb0
    obtain ⟨k, ss, hk, rfl, hG, hS, hb⟩ := hrel
    have hlen : ss.length ≤ 4096 := by have := hS.out.len; rwa [List.length_map] at this
    have hpos : 0 < ss.length := by
      have := List.length_pos_of_mem hS.out.nil
      rwa [List.length_map] at this
    obtain ⟨g, cap, hv, hcap, hmx, hcell⟩ := hG.out.pos hpos
    by_cases hlt : k < ss.length
    · obtain ⟨s, hs⟩ : ∃ s, ss[k]? = some s := ⟨_, List.getElem?_eq_getElem hlt⟩
      have hck := hcell k s hs
      have hrow := hG.out.row s (List.mem_of_getElem? hs)
      have hcl := Lib.hid (hS.out.cl s.2 (by exact List.mem_map_of_mem (List.mem_of_getElem? hs)))
      obtain ⟨hm2, sa, sc, sb, so, hsv, hsc, hs0, hscell⟩ := (ints_of_own hrow).opened
      rw [hsv] at hck
      have hsmap : (ss.map Prod.snd)[k]? = some s.2 := by rw [List.getElem?_map, hs]; rfl
      have hcls := Lib.hid (fun wq (hg : GrowI w.heap.size wq u1 ss) => show ClsSt w.heap.size w wq u1 ss k s (nextL s.2) from ⟨hg, hS.out.enter hsmap, hs, Int.le_refl _, (nextL_bounds hcl.out).2⟩)
      have hsl := clause_len hcl.out
      have hk4 : k < 4096 := by omega
      clear hrow hm2 hs hsmap hcell
      subst hv
      have hsv := Lib.hid hsv
      have hwrap : IntKind.i64.wrap (k : Int) = (k : Int) := IntWalk.i64_in _ (by omega)
      have hkl : (k : Int) < (ss.length : Int) := by omega
      generalize hsn : ss.length = n at *
      have hsn := Lib.hid hsn
      rcases List.eq_nil_or_concat s.2 with hnil | ⟨d, y, hsnoc⟩
      · have hne := Lib.hid (show nextL s.2 = 0 by rw [hnil]; rfl)
        rw [hnil] at hck
        have hck : wr.cell? ⟨g, k, none⟩ = some (.slice sa 0 sc) := hck
        rw [hne.out] at hcls
        clear hscell hs0 hnil
        go_wp2_with fail
        go_loopw [1, 4] (fun v l wq => ∃ (ss' : List SlI) (lit : Int), l = .int .i64 lit ∧ Hid (ClsSt w.heap.size w wq v ss' k s lit) ∧ Below w.heap.size w wq) (fun _ l _ => 12 - (intOf l).toNat)
        case atStart => exact ⟨ss, _, rfl, Lib.hid (hcls.out _ (hG.out)), hb⟩
        case round =>
          clear hcls hb hG hS hck hne
          obtain ⟨ss', lit, rfl, hC, hb'⟩ := hrel
          obtain ⟨l1, l2, l3, l4⟩ := hC.out.len
          obtain ⟨g', cap', rfl, hcap', hmx', hcell'⟩ := hC.out.g.pos (by omega)
          have hck' := hcell' k s hC.out.at'
          have hsI := ints_of_own (hC.out.g.row s (List.mem_of_getElem? hC.out.at'))
          obtain ⟨pa, pc, hps⟩ := hsI.shape
          rw [hps] at hck'
          have hkl' : (k : Int) < (ss'.length : Int) := by omega
          have hli := hC.out.hi
          clear hcell'
          by_cases hl12 : lit < 12
          · have hown := Lib.hid (show Calls Tryz.prog 56 #[.slice pa s.2.length pc] wr fun e w' => ∃ v', e = .returned v' ∧ w'.ownsRow wr.heap.size 2 1 v' s.2.length (s.2.map (Value.int .i64)) ∧ Below wr.heap.size wr w' from by rw [← hps]; exact l01Own_any (slVI s) s.2 wr hsI (by omega))
            have hlw : IntKind.i64.wrap (lit + 1) = lit + 1 := IntWalk.i64_in _ (by omega)
            generalize hsl3 : s.2.length = sl at *
            have hsl3 := Lib.hid hsl3
            generalize hn3 : ss'.length = n3 at *
            have hn3 := Lib.hid hn3
            clear hsI hps hmx'
            go_wp2_with fail
            refine hown.out.mono ?_
            rintro e w2 ⟨v2, rfl, o2, b2⟩
            obtain ⟨a2, c2, hv2⟩ := (ints_of_own o2).shape
            rw [hsl3.out] at hv2
            subst hv2
            have hs2 := b2.size
            have o2 := Lib.hid o2
            have b2 := Lib.hid b2
            have hmxa : sl + 1 ≤ maxLen := by unfold maxLen; omega
            have hmxb : n3 + 1 ≤ maxLen := by unfold maxLen; omega
            have hks := hC.out.g.ks
            go_wp2_with (first
              | (at_builtin; refine wpList_append_own_at _ rfl _ _ 48 rfl wr.heap.size 2 j0 (.int .i64 0) 1 8 Tryz.underlying48 hj jz0 jz1 jz2 rfl (by decide) _ sl (s.2.map (Value.int .i64)) rfl (o2.out.alloc _) ⟨w2.heap.size, 0, none⟩ 1 1 [.int .i64 lit] rfl rfl (cell_one_new _ _ _) (ints_oneCell [lit]) hmxa (by omega) (by simp; omega) ?_
                 intro v3 w3 hown3 hgrow3 _ hblk3
                 obtain ⟨g3, c3, rfl⟩ := ownsRow_succ hown3
                 have b3 := Lib.hid ((b2.out.alloc b2.out.size (.cells #[.int .i64 lit] 2)).grown hgrow3 (by simp; omega) (fun j hj => (o2.out.lt j hj).1))
                 have b4 := Lib.hid (b3.out.alloc b3.out.size (.cells #[.slice (some ⟨g3, 0, none⟩) (sl + 1) c3] 48))
                 have hg4 := Lib.hid (hC.out.g.below b4.out)
                 have hs3 := b3.out.size
                 have hs4 : w.heap.size ≤ (w3.alloc (.cells #[.slice (some ⟨g3, 0, none⟩) (sl + 1) c3] 48)).heap.size := hg4.out.ks
                 have o3 := Lib.hid hown3
                 clear hown3 hgrow3 hblk3)
              | (at_builtin; refine wpList_append_own_at _ rfl _ _ 24 rfl w.heap.size 48 i0 (.slice none 0 0) 1 24 Tryz.underlying24 hi hz0 hz1 hz2 rfl (by decide) _ n3 (ss'.map slVI) rfl (show World.ownsRow _ _ _ _ _ n3 _ by rw [← hn3.out]; first | exact hg4.out.own | (rw [hn3.out]; have := hg4.out.own; rw [hn3.out] at this; exact this)) ⟨w3.heap.size, 0, none⟩ 1 1 [.slice (some ⟨g3, 0, none⟩) (sl + 1) c3] rfl rfl (cell_one_new _ _ _) (by simp [Value.oneCell']) hmxb (by omega) hs4 ?_
                 intro v5 w5 hown5 hgrow5 _ hblk5))
            have hrel2 := Lib.hid (hC.out.add (r := ((some ⟨g3, 0, none⟩, sl + 1, c3), s.2 ++ [lit])) (by omega) b4.out (show World.ownsRow _ _ _ _ (.slice (some ⟨g3, 0, none⟩) (sl + 1) c3) (s.2 ++ [lit]).length ((s.2 ++ [lit]).map (Value.int .i64)) by
                have h1 := own_below o3.out ((Below.refl w3.heap.size w3).alloc (Nat.le_refl _) (.cells #[.slice (some ⟨g3, 0, none⟩) (sl + 1) c3] 48)) (Nat.le_refl _)
                rw [List.map_append, List.length_append, hsl3.out]
                exact h1) rfl (by rw [hn3.out]; exact hown5) hgrow5 hblk5)
            have hb5 := Lib.hid ((hb'.trans (b4.out.mono hks)).grown hgrow5 hs4 (fun j hj => (hg4.out.own.lt j hj).1))
            exact ⟨⟨_, lit + 1, rfl, hrel2, hb5.out⟩, by simp [intOf]; omega⟩
          · obtain rfl : lit = 12 := by omega
            clear hsI hps hmx'
            generalize hn3 : ss'.length = n3 at *
            have hn3 := Lib.hid hn3
            go_wp2_with fail
            go_roundw
            case rel => exact ⟨k + 1, ss', by have := hn3.out; omega, by go_num, Lib.hid hC.out.g, Lib.hid (hC.out.b.next hC.out.map_at (by omega)), hb'⟩
            case measure => simp [intOf]; omega
      · rw [List.concat_eq_append] at hsnoc
        obtain ⟨m, hm⟩ : ∃ m, s.2.length = m + 1 := ⟨d.length, by rw [hsnoc]; simp⟩
        have hy : s.2[m]? = some y := by
          have : m = d.length := by rw [hsnoc] at hm; simpa using hm.symm
          rw [hsnoc, this]; simp
        obtain ⟨y0, y1⟩ := clause_in hcl.out (List.mem_of_getElem? hy)
        obtain ⟨y2, hy2, hcy⟩ := hscell.out m (by omega)
        rw [hy] at hy2
        obtain rfl := Option.some.inj hy2
        obtain rfl : sa = some ⟨sb, so, none⟩ := by
          rcases hs0 with h | ⟨_, h⟩
          · omega
          · exact h
        have hne := Lib.hid (show nextL s.2 = y / 2 * 2 + 2 by rw [hsnoc]; simp [nextL])
        rw [hne.out] at hcls
        rw [hm] at hck hsc
        have hm12 : m ≤ 11 := by omega
        replace hm := Lib.hid hm
        have hw1 : IntKind.i64.wrap (((m + 1 : Nat) : Int) - 1) = (m : Int) := by rw [IntWalk.i64_in _ (by omega)]; omega
        have hml : (m : Int) < ((m + 1 : Nat) : Int) := by omega
        clear hscell hs0 hsnoc hy hy2
        generalize hm1 : m + 1 = m1 at *
        have hm1p : (0 : Int) < (m1 : Int) := by omega
        have hm1q : 0 < m1 := by omega
        have hm1d : decide (0 < m1) = true := decide_eq_true hm1q
        have hm1 := Lib.hid hm1
        go_wp2_with fail
        go_quiet (fail)
        go_wp2_with fail
        go_loopw [1, 4] (fun v l wq => ∃ (ss' : List SlI) (lit : Int), l = .int .i64 lit ∧ Hid (ClsSt w.heap.size w wq v ss' k s lit) ∧ Below w.heap.size w wq) (fun _ l _ => 12 - (intOf l).toNat)
        case atStart => exact ⟨ss, _, rfl, Lib.hid (hcls.out _ (hG.out.drewN _)), below_drewN hb _⟩
        case round =>
          clear hcls hb hG hS hck hne
          obtain ⟨ss', lit, rfl, hC, hb'⟩ := hrel
          obtain ⟨l1, l2, l3, l4⟩ := hC.out.len
          obtain ⟨g', cap', rfl, hcap', hmx', hcell'⟩ := hC.out.g.pos (by omega)
          have hck' := hcell' k s hC.out.at'
          have hsI := ints_of_own (hC.out.g.row s (List.mem_of_getElem? hC.out.at'))
          obtain ⟨pa, pc, hps⟩ := hsI.shape
          rw [hps] at hck'
          have hkl' : (k : Int) < (ss'.length : Int) := by omega
          have hli := hC.out.hi
          clear hcell'
          by_cases hl12 : lit < 12
          · have hown := Lib.hid (show Calls Tryz.prog 56 #[.slice pa s.2.length pc] wr fun e w' => ∃ v', e = .returned v' ∧ w'.ownsRow wr.heap.size 2 1 v' s.2.length (s.2.map (Value.int .i64)) ∧ Below wr.heap.size wr w' from by rw [← hps]; exact l01Own_any (slVI s) s.2 wr hsI (by omega))
            have hlw : IntKind.i64.wrap (lit + 1) = lit + 1 := IntWalk.i64_in _ (by omega)
            generalize hsl3 : s.2.length = sl at *
            have hsl3 := Lib.hid hsl3
            generalize hn3 : ss'.length = n3 at *
            have hn3 := Lib.hid hn3
            clear hsI hps hmx'
            go_wp2_with fail
            refine hown.out.mono ?_
            rintro e w2 ⟨v2, rfl, o2, b2⟩
            obtain ⟨a2, c2, hv2⟩ := (ints_of_own o2).shape
            rw [hsl3.out] at hv2
            subst hv2
            have hs2 := b2.size
            have o2 := Lib.hid o2
            have b2 := Lib.hid b2
            have hmxa : sl + 1 ≤ maxLen := by unfold maxLen; omega
            have hmxb : n3 + 1 ≤ maxLen := by unfold maxLen; omega
            have hks := hC.out.g.ks
            go_wp2_with (first
              | (at_builtin; refine wpList_append_own_at _ rfl _ _ 48 rfl wr.heap.size 2 j0 (.int .i64 0) 1 8 Tryz.underlying48 hj jz0 jz1 jz2 rfl (by decide) _ sl (s.2.map (Value.int .i64)) rfl (o2.out.alloc _) ⟨w2.heap.size, 0, none⟩ 1 1 [.int .i64 lit] rfl rfl (cell_one_new _ _ _) (ints_oneCell [lit]) hmxa (by omega) (by simp; omega) ?_
                 intro v3 w3 hown3 hgrow3 _ hblk3
                 obtain ⟨g3, c3, rfl⟩ := ownsRow_succ hown3
                 have b3 := Lib.hid ((b2.out.alloc b2.out.size (.cells #[.int .i64 lit] 2)).grown hgrow3 (by simp; omega) (fun j hj => (o2.out.lt j hj).1))
                 have b4 := Lib.hid (b3.out.alloc b3.out.size (.cells #[.slice (some ⟨g3, 0, none⟩) (sl + 1) c3] 48))
                 have hg4 := Lib.hid (hC.out.g.below b4.out)
                 have hs3 := b3.out.size
                 have hs4 : w.heap.size ≤ (w3.alloc (.cells #[.slice (some ⟨g3, 0, none⟩) (sl + 1) c3] 48)).heap.size := hg4.out.ks
                 have o3 := Lib.hid hown3
                 clear hown3 hgrow3 hblk3)
              | (at_builtin; refine wpList_append_own_at _ rfl _ _ 24 rfl w.heap.size 48 i0 (.slice none 0 0) 1 24 Tryz.underlying24 hi hz0 hz1 hz2 rfl (by decide) _ n3 (ss'.map slVI) rfl (show World.ownsRow _ _ _ _ _ n3 _ by rw [← hn3.out]; first | exact hg4.out.own | (rw [hn3.out]; have := hg4.out.own; rw [hn3.out] at this; exact this)) ⟨w3.heap.size, 0, none⟩ 1 1 [.slice (some ⟨g3, 0, none⟩) (sl + 1) c3] rfl rfl (cell_one_new _ _ _) (by simp [Value.oneCell']) hmxb (by omega) hs4 ?_
                 intro v5 w5 hown5 hgrow5 _ hblk5))
            have hrel2 := Lib.hid (hC.out.add (r := ((some ⟨g3, 0, none⟩, sl + 1, c3), s.2 ++ [lit])) (by omega) b4.out (show World.ownsRow _ _ _ _ (.slice (some ⟨g3, 0, none⟩) (sl + 1) c3) (s.2 ++ [lit]).length ((s.2 ++ [lit]).map (Value.int .i64)) by
                have h1 := own_below o3.out ((Below.refl w3.heap.size w3).alloc (Nat.le_refl _) (.cells #[.slice (some ⟨g3, 0, none⟩) (sl + 1) c3] 48)) (Nat.le_refl _)
                rw [List.map_append, List.length_append, hsl3.out]
                exact h1) rfl (by rw [hn3.out]; exact hown5) hgrow5 hblk5)
            have hb5 := Lib.hid ((hb'.trans (b4.out.mono hks)).grown hgrow5 hs4 (fun j hj => (hg4.out.own.lt j hj).1))
            go_roundw
            case rel => exact ⟨_, lit + 1, by go_num, hrel2, hb5.out⟩
            case measure => simp [intOf]; omega
          · obtain rfl : lit = 12 := by omega
            clear hsI hps hmx'
            generalize hn3 : ss'.length = n3 at *
            have hn3 := Lib.hid hn3
            go_wp2_with fail
            go_roundw
            case rel => exact ⟨k + 1, ss', by have := hn3.out; omega, by go_num, Lib.hid hC.out.g, Lib.hid (hC.out.b.next hC.out.map_at (by omega)), hb'⟩
            case measure => simp [intOf]; omega
    · obtain rfl : k = ss.length := by omega
      subst hv
      have hfin := Lib.hid (hS.out.finish (by simp))
      generalize hsn : ss.length = n at *
      have hsn := Lib.hid hsn
      clear hcell
      go_wp2_with fail
      go_ret
      exact ⟨_, ss, rfl, by first | exact hG.out | (rw [hsn.out] at *; exact hG.out), hfin, Lib.hid (by rw [hsn.out]; exact hlen), hb⟩
end Go.Proofs.YtmhkcicjbgifnaaGreat
