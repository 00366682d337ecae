/- MatchFormula: the program's walk. -/
import Derived.Test.YtdpnkojchimmfaaQBMatch
import Derived.Deep.RegionHeld3
import Derived.Lib.SliceRun

namespace Go.Proofs.Ytdpnkojchimmfaa
open Go.RowKit Go.Deep

set_option maxHeartbeats 1000000 in
theorem cloneN_any (v : Value) (ns : List Nd) (w : World) (h : Nodes w v ns) (hp : 0 < ns.length) (hn : ns.length ≤ 1000) :
    Calls Try.prog 77 #[v] w fun e w' => ∃ v', e = .returned v' ∧ w'.ownsRow w.heap.size 41 2 v' ns.length (cellsN ns) ∧ Below w.heap.size w w' := by
  obtain ⟨i0, hi, hz0, hz1, hz2⟩ := info_parts info_node
  have hnil : ∀ (w : World) (a : Option Addr) (n c n' c' : Nat), (binOp .eql 27 (.slice a n c) (.slice none n' c')).run Try.prog w = .ok (.bool a.isNone) w := fun w a n c n' c' => Lib.run_eql_slice_nil w _ _ a n c n' c' Try.underlying27
  obtain ⟨c, b, o, rfl, hc, hcm, hcell⟩ := h.raw hp
  have hlen := Lib.hid (cellsN_length ns)
  have hl0 := Lib.hid (World.ownsRow_lit (e := 41) (base := w.heap.size) (size := 2) w #[] 0 (Nat.le_refl _) (by simp [maxLen]) rfl)
  have hba := Lib.hid ((Below.refl w.heap.size w).alloc (Nat.le_refl _) (.cells #[] 41))
  have hsrc := Lib.hid (nodes_src (cells_below hcell.out hba.out (Nat.le_refl _)))
  have hone := Lib.hid (nodes_oneCell ns)
  clear h
  generalize hm : ns.length = m at *
  have hm := Lib.hid hm
  go_enter Try.func77, Try.ntmps77
  go_wp2_with (first | (at_builtin; refine wpList_append_own _ rfl _ _ 27 rfl w.heap.size 41 i0 (.agg #[.int .i64 0, .int .i64 0]) 2 16 Try.underlying27 hi hz0 hz1 hz2 rfl (by decide) _ _ _ rfl hl0.out ⟨b, o, none⟩ m c (cellsN ns) rfl hlen.out hsrc.out hone.out (by unfold maxLen; omega) (by omega) (by simp) ?_; intro v' w1 hown' hgrow _) | go_in)
  go_ret
  refine ⟨v', rfl, ?_, hba.out.grown hgrow (by simp) (fun j hj => (hl0.out.lt j hj).1)⟩
  rw [Nat.zero_add] at hown'
  exact hown'

/-- A row of one's own is put into the list. -/
theorem Grow.put {K g n cap u : Nat} {w w1 : World} {ss : List Sl} {s : Sl} (h : Grow K w (.slice (some ⟨g, 0, none⟩) n cap) ss) (hsn : ss.length = n) (b : Below w.heap.size w w1) (hr : w1.ownsRow w.heap.size 41 2 (slV s) s.2.length (cellsN s.2)) :
    Grow K (w1.setCell ⟨g, u, none⟩ (slV s)) (.slice (some ⟨g, 0, none⟩) n cap) (ss.set u s) := by
  have hg := grown_set w1 g u (slV s)
  have hgl : g < w.heap.size := own_lt h.own g rfl
  have hn : ∀ k, (slV s).ownBlock = some k → w.heap.size ≤ k ∧ k < w1.heap.size := fun k hk => hr.lt k hk
  have hold : ∀ t ∈ ss, ∀ k, (slV t).ownBlock = some k → k < w.heap.size := fun t ht => own_lt (h.row t ht)
  refine ⟨?_, fun t ht => ?_, fun t ht k hk => ?_, ?_, Nat.le_trans h.ks (Nat.le_trans b.size hg.size)⟩
  · have h0 := own_below h.own b (Nat.le_refl _)
    rw [hsn] at h0
    have h1 := (h0.stored u (slV s)).1
    rw [List.length_set, List.map_set, hsn]
    exact h1
  · rcases List.mem_or_eq_of_mem_set ht with ht | rfl
    · exact row_same (own_below (h.row t ht) b (Nat.le_refl _)) fun k hk _ hl => hg.block k hl fun e => by
        obtain rfl : k = g := by simpa using e
        exact h.ap t ht k rfl hk
    · exact row_same (own_mono hr h.ks) fun k hk _ hl => hg.block k hl fun e => by
        obtain rfl : k = g := by simpa using e
        have := (hn _ hk).1
        omega
  · obtain rfl : g = k := by simpa [Value.ownBlock] using hk
    rcases List.mem_or_eq_of_mem_set ht with ht | rfl
    · exact h.ap t ht g rfl
    · intro e
      have := (hn _ e).1
      omega
  · rw [List.pairwise_iff_getElem]
    intro i j hi hj hij k hk1 hk2
    rw [List.length_set] at hi hj
    have hp := List.pairwise_iff_getElem.1 h.pw i j hi hj hij k
    rw [List.getElem_set] at hk1 hk2
    split at hk1
    · split at hk2
      · omega
      · have h1 := (hn k hk1).1
        have h2 := hold _ (List.getElem_mem hj) k hk2
        omega
    · split at hk2
      · have h1 := (hn k hk2).1
        have h2 := hold _ (List.getElem_mem hi) k hk1
        omega
      · exact hp hk1 hk2

/-- The list's slices and what is known. -/
def RelIm (ss : List Sl) (M : Im) : Prop := ss.length = 6 ∧ M.length = 6 ∧ ∀ (u : Nat) (s : Sl) (o : Option (List Nd)), ss[u]? = some s → M[u]? = some o → (o = none ∧ s = nilSl) ∨ ∃ a c d, o = some d ∧ s = ((some a, d.length, c), d)
theorem relIm_none : RelIm (List.replicate 6 nilSl) noIm := ⟨rfl, rfl, fun u s o h1 h2 => by
  have e1 := List.eq_of_mem_replicate (List.mem_of_getElem? h1)
  have e2 := List.eq_of_mem_replicate (List.mem_of_getElem? h2)
  exact .inl ⟨e2, e1⟩⟩
theorem relIm_set {ss : List Sl} {M : Im} {u : Nat} {a : Addr} {c : Nat} {d : List Nd} (h : RelIm ss M) : RelIm (ss.set u ((some a, d.length, c), d)) (M.set u (some d)) := by
  refine ⟨by rw [List.length_set]; exact h.1, by rw [List.length_set]; exact h.2.1, fun v s o h1 h2 => ?_⟩
  by_cases e : u = v
  · subst e
    have hl : u < ss.length := by have := (List.getElem?_eq_some_iff.1 h1).1; simpa using this
    have hl2 : u < M.length := by have := (List.getElem?_eq_some_iff.1 h2).1; simpa using this
    rw [List.getElem?_set_self hl] at h1
    rw [List.getElem?_set_self hl2] at h2
    obtain rfl := Option.some.inj h1
    obtain rfl := Option.some.inj h2
    exact .inr ⟨a, c, d, rfl, rfl⟩
  · rw [List.getElem?_set_ne e] at h1 h2
    exact h.2.2 v s o h1 h2

theorem grow_start {w w1 : World} {g : Nat} (hg : w.heap.size ≤ w1.heap.size) (h : w1.ownsRow w.heap.size 27 1 (.slice (some ⟨g, 0, none⟩) 6 6) 6 ((List.replicate 6 nilSl).map slV)) : Grow w.heap.size w1 (.slice (some ⟨g, 0, none⟩) 6 6) (List.replicate 6 nilSl) := by
  refine ⟨h, fun s hs => ?_, fun s hs k _ hk => ?_, ?_, hg⟩
  · rw [List.eq_of_mem_replicate hs]
    exact World.ownsRow_nil _ _ _ _
  · rw [List.eq_of_mem_replicate hs] at hk
    cases hk
  · rw [List.pairwise_replicate]
    refine .inr fun k hk => ?_
    cases hk

theorem finM_fill {M : Im} {q : Nat} (h : M[q]? = some none) : finM (M.set q (some [((0 : Int), (q : Int))])) = finM M := by
  unfold finM
  apply List.map_congr_left
  intro i _
  have hq : q < M.length := (List.getElem?_eq_some_iff.1 h).1
  rw [List.getD_eq_getElem?_getD, List.getD_eq_getElem?_getD]
  by_cases e : q = i
  · subst e
    rw [List.getElem?_set_self hq, h]; rfl
  · rw [List.getElem?_set_ne e]
theorem finM_all {ss : List Sl} {M : Im} (h : RelIm ss M) (hall : ∀ j, j < 6 → ∃ d, M[j]? = some (some d)) : ss.map Prod.snd = finM M := by
  apply List.ext_getElem?
  intro i
  by_cases hi : i < 6
  · obtain ⟨d, hd⟩ := hall i hi
    obtain ⟨s, hs⟩ : ∃ s, ss[i]? = some s := ⟨_, List.getElem?_eq_getElem (by have := h.1; omega)⟩
    rcases h.2.2 i s _ hs hd with ⟨e, _⟩ | ⟨a, c, d', e, rfl⟩
    · cases e
    · obtain rfl : d = d' := by simpa using e
      unfold finM
      rw [List.getElem?_map, hs, List.getElem?_map, List.getElem?_range hi]
      simp [List.getD_eq_getElem?_getD, hd]
  · rw [List.getElem?_eq_none (by rw [List.length_map]; have := h.1; omega), List.getElem?_eq_none (by rw [finM_length]; omega)]

theorem variableG_any (i : Int) (w : World) :
    Calls Try.prog 65 #[.int .i64 i] w fun e w' => e = .returned (.slice (some ⟨w.heap.size, 0, none⟩) 1 1) ∧ w'.ownsRow w.heap.size 41 2 (.slice (some ⟨w.heap.size, 0, none⟩) 1 1) 1 (cellsN [(0, i)]) ∧ Below w.heap.size w w' := by
  have hl0 := Lib.hid (World.ownsRow_lit (e := 41) (base := w.heap.size) (size := 2) w #[.int .i64 0, .int .i64 i] 1 (Nat.le_refl _) (by simp [maxLen]) rfl)
  go_enter Try.func65, Try.ntmps65
  go_wp2_with fail
  go_ret
  exact ⟨rfl, hl0.out, (Below.refl _ _).alloc (Nat.le_refl _) _⟩

/-- What is behind a store of a clone. -/
theorem put_clone {w A w3 : World} {g U m c3 : Nat} {a3 : Option Addr} {Pt : List Nd} {ss : List Sl} {M : Im} (hrel : RelIm ss M) (hG : Grow w.heap.size A (.slice (some ⟨g, 0, none⟩) 6 6) ss) (hb : Below w.heap.size w A) (hg : w.heap.size ≤ g)
    (hm : Pt.length = m) (hm0 : 0 < m) (ho : w3.ownsRow A.heap.size 41 2 (.slice a3 Pt.length c3) m (cellsN Pt)) (hB : Below A.heap.size A w3) :
    ∃ ss', RelIm ss' (M.set U (some Pt)) ∧ Grow w.heap.size (w3.setCell ⟨g, U, none⟩ (.slice a3 Pt.length c3)) (.slice (some ⟨g, 0, none⟩) 6 6) ss' ∧ Below w.heap.size w (w3.setCell ⟨g, U, none⟩ (.slice a3 Pt.length c3)) := by
  obtain ⟨p3, rfl⟩ : ∃ p, a3 = some p := by
    rcases ho.2 with ⟨_, h0⟩ | ⟨q, cap, cur, h, _⟩
    · omega
    · injection h with h1
      exact ⟨_, h1⟩
  have ho2 : w3.ownsRow A.heap.size 41 2 (slV ((some p3, Pt.length, c3), Pt)) Pt.length (cellsN Pt) := by
    have h9 := ho
    rw [← hm] at h9
    exact h9
  exact ⟨_, relIm_set hrel, hG.put (u := U) (s := ((some p3, Pt.length, c3), Pt)) hrel.1 hB ho2, (hb.trans (hB.mono hb.size)).setCell hg _⟩

set_option maxHeartbeats 4000000 in
theorem match_any (v u : Value) (a b : List Nd) (w : World) (h : Nodes w v a) (hu : Nodes w u b) (ha : formB a = true) (hb : formB b = true) :
    Calls Try.prog 48 #[v, u] w fun e w' => ((∃ M v', mtOpt a b = some M ∧ e = .returned (.tuple #[v', .bool true]) ∧ OwnSS w.heap.size w'.heap.size w' v' (finM M)) ∨ (mtOpt a b = none ∧ e = .returned (.tuple #[.slice none 0 0, .bool false]))) ∧ Below w.heap.size w w' := by
  obtain ⟨i0, hi, hz0, hz1, hz2⟩ := info_parts info_nodes
  have hI := Lib.hid (And.intro hi (And.intro hz0 (And.intro hz1 hz2)))
  clear hi hz0 hz1 hz2
  have hneq : ∀ (w : World) (a : Option Addr) (n c n' c' : Nat), (binOp .neq 27 (.slice a n c) (.slice none n' c')).run Try.prog w = .ok (.bool (!a.isNone)) w := fun w a n c n' c' => run_neq_slice_nil_any w _ _ a n c n' c' Try.underlying27
  have heql : ∀ (w : World) (a : Option Addr) (n c n' c' : Nat), (binOp .eql 27 (.slice a n c) (.slice none n' c')).run Try.prog w = .ok (.bool a.isNone) w := fun w a n c n' c' => Lib.run_eql_slice_nil w _ _ a n c n' c' Try.underlying27
  obtain ⟨la0, la1⟩ := form_len3 ha
  obtain ⟨lb0, lb1⟩ := form_len3 hb
  obtain ⟨_, aa, ca, ba, oa, rfl, hca, haa, hcella⟩ := h.opened
  obtain ⟨_, ab, cb, bb, ob, rfl, hcb, hab, hcellb⟩ := hu.opened
  obtain rfl : aa = some ⟨ba, oa, none⟩ := by rcases haa with haa | ⟨_, haa⟩; · omega
                                              exact haa
  obtain rfl : ab = some ⟨bb, ob, none⟩ := by rcases hab with hab | ⟨_, hab⟩; · omega
                                              exact hab
  have hub := Lib.hid hu
  have hal := Lib.hid (form_all3 ha)
  have hbf := Lib.hid hb
  have hop := Lib.hid (open2_start ha hb)
  have hR0 := Lib.hid (show mGo b (a.drop 0) 0 noIm = mtOpt a b by rw [List.drop_zero]; rfl)
  clear h hu ha hb haa hab
  generalize mtOpt a b = R at *
  go_enter Try.func48, Try.ntmps48
  go_wp2_with (first | (at_make; refine wpList_make_full _ rfl _ _ 24 rfl w.heap.size 27 i0 (.slice none 0 0) 1 Try.underlying24 hI.out.1 hI.out.2.1 hI.out.2.2.1 _ _ _ _ 6 rfl rfl rfl rfl (by rw [hI.out.2.2.2]; omega) (by unfold maxLen; omega) (Nat.le_refl _) ?_; intro w1 hown hgr) | go_in)
  rw [made_slices] at hown
  have hB1 := below_of_grownBy hgr (Nat.le_refl _) (by simp)
  have hG := Lib.hid (grow_start hgr.size hown)
  clear hown hgr
  go_loopw [7, 15] (fun t i wr => ∃ (k T : Nat) (M : Im) (ss : List Sl), k ≤ a.length ∧ i = .int .i64 k ∧ t = .int .i64 T ∧ T ≤ b.length ∧ Hid (mGo b (a.drop k) T M = R) ∧ Hid (RelIm ss M ∧ smIm M) ∧ Hid (Open2 a b k T) ∧ Hid (Grow w.heap.size wr (.slice (some ⟨w.heap.size, 0, none⟩) 6 6) ss) ∧ Below w.heap.size w wr) (fun _ i _ => a.length - (intOf i).toNat)
  case atStart => exact ⟨0, 0, noIm, List.replicate 6 nilSl, Nat.zero_le _, rfl, rfl, Nat.zero_le _, hR0.out, ⟨relIm_none, smIm_none⟩, hop.out, hG.out, hB1⟩
  case round =>
    clear hG hB1 hR0 hop
    obtain ⟨k, T, M, ss, hk, rfl, rfl, hT, hR, hrelS, hopn, hG, hbw⟩ := hrel
    have hrel := Lib.hid hrelS.out.1
    have hsm := Lib.hid hrelS.out.2
    clear hrelS
    by_cases hlt : k < a.length
    · have hTb := open2_pos hopn.out hlt
      obtain ⟨x, y, hx, hcx, hcy⟩ := hcella.out k hlt
      have hcx := (hbw.cell (p := ⟨ba, oa + k * 2, none⟩) (World.block_lt_of_cell? w _ hcx)).trans hcx
      have hcy := (hbw.cell (p := ⟨ba, oa + k * 2 + 1, none⟩) (World.block_lt_of_cell? w _ hcy)).trans hcy
      have hxh := Lib.hid hx
      have hnb := List.all_eq_true.1 hal.out (x, y) (List.mem_of_getElem? hx)
      clear hx
      by_cases hx0 : x = 0
      · subst hx0
        unfold nodeB at hnb
        simp at hnb
        obtain ⟨U, rfl⟩ : ∃ U : Nat, y = (U : Int) := ⟨y.toNat, by omega⟩
        have hU : U < 6 := by omega
        have hUi : (U : Int) < 6 := by omega
        clear hnb
        obtain ⟨m, hm0, hm1, hme⟩ := part_in hbf.out hTb
        have hpl := partL_eq hme
        have hpart := Lib.hid (fun W (hW : Below w.heap.size w W) => part_any _ b T m W (hub.out.below hW (Nat.le_refl _)) hme hm0 hm1 (by omega))
        have hop2 := Lib.hid (open2_part hopn.out hxh.out hme hm1)
        have hP40 := partL_le lb1 T
        have hplen : (partL b T).length = m := by rw [← hpl, List.length_take, List.length_drop]; omega
        rw [hpl] at hpart
        have hmeh := Lib.hid hme
        clear hme hpl
        obtain ⟨sl, hsl⟩ : ∃ s, ss[U]? = some s := ⟨_, List.getElem?_eq_getElem (by have := hrel.out.1; omega)⟩
        obtain ⟨o, ho⟩ : ∃ o, M[U]? = some o := ⟨_, List.getElem?_eq_getElem (by have := hrel.out.2.1; omega)⟩
        have hbA := Lib.hid (hbw.alloc hbw.size (.cells #[.int .i64 0, .int .i64 (U : Int)] 41))
        have hGA := Lib.hid (hG.out.below ((Below.refl wr.heap.size wr).alloc (Nat.le_refl _) (.cells #[.int .i64 0, .int .i64 (U : Int)] 41)))
        have hcg : (wr.alloc (.cells #[.int .i64 0, .int .i64 (U : Int)] 41)).cell? ⟨w.heap.size, U, none⟩ = some (slV sl) := by
          have h9 := hGA.out.own
          rw [hrel.out.1] at h9
          rw [h9.cellAt U (by omega), List.getElem?_map, hsl]; rfl
        have hfz : (wr.alloc (.cells #[.int .i64 0, .int .i64 (U : Int)] 41)).frozen? ⟨w.heap.size, U, none⟩ = false := by
          have h9 := hGA.out.own
          rw [hrel.out.1] at h9
          exact h9.frozenAt U
        rcases hrel.out.2.2 U sl o hsl ho with ⟨rfl, rfl⟩ | ⟨da, dc, d, rfl, rfl⟩
        · have hnext := Lib.hid (mGo_new (b := b) hxh.out ho hplen)
          unfold slV nilSl at hcg
          simp only at hcg
          have hTi : (T : Int) < (b.length : Int) := by omega
          clear hsl ho
          generalize hP : partL b T = Pt at *
          replace hP := Lib.hid hP
          go_wp2_with fail
          refine (hpart.out _ hbA.out).mono ?_
          rintro e w2 ⟨⟨v2, rfl, hn2⟩, rfl⟩
          obtain ⟨a2, c2, hsh2⟩ := hn2.shape
          subst hsh2
          have hplenh := Lib.hid hplen
          rw [hplen] at hn2 ⊢
          clear hplen
          have hclone := Lib.hid (fun W (hW : Below (wr.alloc (.cells #[.int .i64 0, .int .i64 (U : Int)] 41)).heap.size (wr.alloc (.cells #[.int .i64 0, .int .i64 (U : Int)] 41)) W) => show Calls Try.prog 77 #[.slice a2 m c2] W fun e w' => ∃ v', e = .returned v' ∧ w'.ownsRow W.heap.size 41 2 v' m (cellsN Pt) ∧ Below W.heap.size W w' from by
            have h9 := cloneN_any (.slice a2 m c2) Pt W (hn2.below hW (Nat.le_refl _)) (by rw [hplenh.out]; omega) (by rw [hplenh.out]; omega)
            rw [hplenh.out] at h9
            exact h9)
          have hn2 := Lib.hid hn2
          go_wp2_with fail
          have hbox : (wr.alloc (.cells #[.int .i64 0, .int .i64 (U : Int)] 41)).cell? ⟨wr.heap.size, 1, none⟩ = some (.int .i64 (U : Int)) := by rw [World.cell?_alloc_at _ _ _ _ rfl]; rfl
          generalize hA : wr.alloc (.cells #[.int .i64 0, .int .i64 (U : Int)] 41) = A at *
          replace hA := Lib.hid hA
          go_region_with (first | (go_at_call 77; refine (hclone.out _ (by first | exact Below.refl _ _ | exact Below.drew (Below.refl _ _) | exact below_drewN' _ _)).mono ?_; rintro e w3 ⟨v3, rfl, ho3, b3⟩; obtain ⟨a3, c3, hsh3⟩ := (nodes_of_own ho3).shape; subst hsh3; have hcg3 := b3.cell (World.block_lt_of_cell? A _ hcg); have hbox3 := b3.cell (World.block_lt_of_cell? A _ hbox); have hcg4 := hcg3.trans hcg; have hbox4 := hbox3.trans hbox; have hfz3 : w3.frozen? ⟨w.heap.size, U, none⟩ = false := (World.frozen?_of_block (b3.block _ (World.block_lt_of_cell? A _ hcg))).trans hfz))
          all_goals
            have hB3 : Below A.heap.size A w3 := ⟨b3.os, b3.tape, b3.output, b3.size, b3.block⟩
            obtain ⟨ss', hr', hG', hb'⟩ := put_clone (U := U) hrel.out hGA.out hbA.out (Nat.le_refl _) hplenh.out hm0 ho3 hB3
            replace hr' := Lib.hid hr'
            replace hG' := Lib.hid hG'
            replace hb' := Lib.hid hb'
            clear ho3 b3 hB3 hcg3 hbox3
            go_wp2_with fail
            go_roundw
            case rel => exact ⟨k + 1, T + m, M.set U (some Pt), ss', by omega, by go_num, by go_num, by omega, by rw [← hR.out]; exact hnext.out.symm, ⟨hr'.out, smIm_set hsm.out hP40⟩, hop2.out, hG'.out, hb'.out⟩
            case measure => simp [intOf]; omega
        · have hold := Lib.hid (mGo_old (b := b) hxh.out ho hplen)
          have hrow := hGA.out.row _ (List.mem_of_getElem? hsl)
          have hnd := Lib.hid (nodes_of_own hrow)
          have hdl : d.length ≤ 40 := hsm.out.2 d (List.mem_of_getElem? ho)
          unfold slV at hcg
          simp only at hcg
          have hTi : (T : Int) < (b.length : Int) := by omega
          clear hsl ho hrow
          generalize hP : partL b T = Pt at *
          replace hP := Lib.hid hP
          go_wp2_with fail
          refine (hpart.out _ hbA.out).mono ?_
          rintro e w2 ⟨⟨v2, rfl, hn2⟩, rfl⟩
          obtain ⟨a2, c2, hsh2⟩ := hn2.shape
          subst hsh2
          have hsame := Lib.hid (same_any _ _ d Pt _ hnd.out hn2 (by omega))
          unfold slV at hsame
          simp only at hsame
          have hplenh := Lib.hid hplen
          generalize hdm : d.length = dm at *
          replace hdm := Lib.hid hdm
          rw [hplen] at hn2 hsame ⊢
          clear hplen
          by_cases hde : d = Pt
          · have hnext := Lib.hid (show mGo b (a.drop k) T M = mGo b (a.drop (k + 1)) (T + m) (M.set U (some Pt)) by rw [hold.out, if_pos hde])
            have hdd := Lib.hid (show decide (d = Pt) = true from decide_eq_true hde)
            clear hde
            have hbox : (wr.alloc (.cells #[.int .i64 0, .int .i64 (U : Int)] 41)).cell? ⟨wr.heap.size, 1, none⟩ = some (.int .i64 (U : Int)) := by rw [World.cell?_alloc_at _ _ _ _ rfl]; rfl
            generalize hA : wr.alloc (.cells #[.int .i64 0, .int .i64 (U : Int)] 41) = A0 at *
            replace hA := Lib.hid hA
            go_wp2_with fail
            refine hsame.out.mono ?_
            rintro e A ⟨rfl, hbS⟩
            rw [hdd.out]
            have hclone := Lib.hid (fun W (hW : Below A.heap.size A W) => show Calls Try.prog 77 #[.slice a2 m c2] W fun e w' => ∃ v', e = .returned v' ∧ w'.ownsRow W.heap.size 41 2 v' m (cellsN Pt) ∧ Below W.heap.size W w' from by
              have h9 := cloneN_any (.slice a2 m c2) Pt W ((hn2.below hbS (Nat.le_refl _)).below hW (Nat.le_refl _)) (by rw [hplenh.out]; omega) (by rw [hplenh.out]; omega)
              rw [hplenh.out] at h9
              exact h9)
            replace hn2 := Lib.hid hn2
            replace hGA := Lib.hid (hGA.out.below hbS)
            replace hbA := Lib.hid (hbA.out.trans (hbS.mono hbA.out.size))
            replace hfz := (World.frozen?_of_block (hbS.block _ (World.block_lt_of_cell? A0 _ hcg))).trans hfz
            replace hcg := (hbS.cell (World.block_lt_of_cell? A0 _ hcg)).trans hcg
            replace hbox := (hbS.cell (World.block_lt_of_cell? A0 _ hbox)).trans hbox
            go_wp2_with fail
            go_region_with (first | (go_at_call 77; refine (hclone.out _ (by first | exact Below.refl _ _ | exact Below.drew (Below.refl _ _) | exact below_drewN' _ _)).mono ?_; rintro e w3 ⟨v3, rfl, ho3, b3⟩; obtain ⟨a3, c3, hsh3⟩ := (nodes_of_own ho3).shape; subst hsh3; have hcg3 := b3.cell (World.block_lt_of_cell? A _ hcg); have hbox3 := b3.cell (World.block_lt_of_cell? A _ hbox); have hcg4 := hcg3.trans hcg; have hbox4 := hbox3.trans hbox; have hfz3 : w3.frozen? ⟨w.heap.size, U, none⟩ = false := (World.frozen?_of_block (b3.block _ (World.block_lt_of_cell? A _ hcg))).trans hfz))
            all_goals
              have hB3 : Below A.heap.size A w3 := ⟨b3.os, b3.tape, b3.output, b3.size, b3.block⟩
              obtain ⟨ss', hr', hG', hb'⟩ := put_clone (U := U) hrel.out hGA.out hbA.out (Nat.le_refl _) hplenh.out hm0 ho3 hB3
              replace hr' := Lib.hid hr'
              replace hG' := Lib.hid hG'
              replace hb' := Lib.hid hb'
              clear ho3 b3 hB3 hcg3 hbox3
              go_wp2_with fail
              go_roundw
              case rel => exact ⟨k + 1, T + m, M.set U (some Pt), ss', by omega, by go_num, by go_num, by omega, by rw [← hR.out]; exact hnext.out.symm, ⟨hr'.out, smIm_set hsm.out hP40⟩, hop2.out, hG'.out, hb'.out⟩
              case measure => simp [intOf]; omega
          · have hfin := Lib.hid (show R = none by rw [← hR.out, hold.out, if_neg hde])
            have hdd := Lib.hid (show decide (d = Pt) = false from decide_eq_false hde)
            clear hde
            go_wp2_with fail
            refine hsame.out.mono ?_
            rintro e w3 ⟨rfl, hbS⟩
            rw [hdd.out]
            have hB9 := Lib.hid (hbA.out.trans (hbS.mono hbA.out.size))
            go_wp2_with fail
            go_ret2
            exact ⟨.inr ⟨hfin.out, rfl⟩, hB9.out⟩
      · obtain ⟨x', y', hx', hcx', hcy'⟩ := hcellb.out T hTb
        have lx' := World.block_lt_of_cell? w _ hcx'
        have hbA := Lib.hid (hbw.alloc hbw.size (.cells #[.int .i64 x, .int .i64 y] 41))
        have hGA := Lib.hid (hG.out.below ((Below.refl wr.heap.size wr).alloc (Nat.le_refl _) (.cells #[.int .i64 x, .int .i64 y] 41)))
        have hcx' := (hbA.out.cell (p := ⟨bb, ob + T * 2, none⟩) lx').trans hcx'
        have hcy' := (hbA.out.cell (p := ⟨bb, ob + T * 2 + 1, none⟩) lx').trans hcy'
        have hstep := Lib.hid (mGo_node (b := b) (t := T) (M := M) hxh.out hx0)
        have hxne : (x != 0) = true := by rw [bne_iff_ne]; exact hx0
        have hTi : (T : Int) < (b.length : Int) := by omega
        have hx'h := Lib.hid hx'
        clear hx' hx0
        by_cases he : x = x' ∧ y = y'
        · obtain ⟨rfl, rfl⟩ := he
          have hnext := Lib.hid (show mGo b (a.drop k) T M = mGo b (a.drop (k + 1)) (T + 1) M by rw [hstep.out, if_pos hx'h.out])
          have hop2 := Lib.hid (open2_node hopn.out hxh.out hx'h.out)
          go_wp2_with fail
          go_quiet (fail)
          go_wp2_with fail
          go_roundw
          case rel => exact ⟨k + 1, T + 1, M, ss, by omega, by go_num, by go_num, by omega, by rw [← hR.out]; exact hnext.out.symm, ⟨hrel.out, hsm.out⟩, hop2.out, hGA.out.below (below_drewN' _ _), hbA.out.trans (below_drewN' _ _)⟩
          case measure => simp [intOf]; omega
        · have hfin := Lib.hid (show R = none by
            rw [← hR.out, hstep.out, if_neg]
            rw [hx'h.out]
            intro e
            have h9 := Option.some.inj e
            simp only [Prod.mk.injEq] at h9
            exact he ⟨h9.1.symm, h9.2.symm⟩)
          by_cases hxe : x' = x
          · have hye : (y' == y) = false := by rw [beq_eq_false_iff_ne]; exact fun h => he ⟨hxe.symm, h.symm⟩
            subst hxe
            clear he
            go_wp2_with fail
            go_quiet (fail)
            go_wp2_with fail
            go_ret2
            exact ⟨.inr ⟨hfin.out, rfl⟩, hbA.out.trans (below_drewN' _ _)⟩
          · have hye : (x' == x) = false := by rw [beq_eq_false_iff_ne]; exact hxe
            clear he hxe
            go_wp2_with fail
            go_quiet (fail)
            go_wp2_with fail
            go_ret2
            exact ⟨.inr ⟨hfin.out, rfl⟩, hbA.out.trans (below_drewN' _ _)⟩
    · obtain rfl : k = a.length := by omega
      have hfin := Lib.hid (show R = some M by rw [← hR.out]; exact mGo_end (Nat.le_refl _))
      clear hR hopn hT
      have hGh := Lib.hid hG.out
      go_wp2_with fail
      go_loopw [66] (fun i wr2 => ∃ (q : Nat) (M' : Im) (ss' : List Sl), q ≤ 6 ∧ i = .int .i64 q ∧ Hid (RelIm ss' M' ∧ finM M' = finM M ∧ ∀ j, j < q → ∃ d, M'[j]? = some (some d)) ∧ Hid (Grow w.heap.size wr2 (.slice (some ⟨w.heap.size, 0, none⟩) 6 6) ss') ∧ Below w.heap.size w wr2) (fun i _ => 6 - (intOf i).toNat)
      case atStart => exact ⟨0, M, ss, by omega, rfl, ⟨hrel.out, rfl, fun j hj => by omega⟩, hG.out, hbw⟩
      case round =>
        clear hG hbw hsm
        obtain ⟨q, M', ss', hq, rfl, hrel', hG', hbw'⟩ := hrel
        by_cases hq6 : q < 6
        · have hqi : (q : Int) < 6 := by omega
          obtain ⟨sl, hsl⟩ : ∃ s, ss'[q]? = some s := ⟨_, List.getElem?_eq_getElem (by have := hrel'.out.1.1; omega)⟩
          obtain ⟨o, ho⟩ : ∃ o, M'[q]? = some o := ⟨_, List.getElem?_eq_getElem (by have := hrel'.out.1.2.1; omega)⟩
          have h9 := hG'.out.own
          rw [hrel'.out.1.1] at h9
          have hcg : wr.cell? ⟨w.heap.size, q, none⟩ = some (slV sl) := by
            rw [h9.cellAt q (by omega), List.getElem?_map, hsl]; rfl
          have hfz : wr.frozen? ⟨w.heap.size, q, none⟩ = false := h9.frozenAt q
          clear h9
          rcases hrel'.out.1.2.2 q sl o hsl ho with ⟨rfl, rfl⟩ | ⟨da, dc, d, rfl, rfl⟩
          · unfold slV nilSl at hcg
            simp only at hcg
            have hfill := Lib.hid (finM_fill ho)
            have hset := Lib.hid (show ∀ j, j < q + 1 → ∃ d, (M'.set q (some [((0 : Int), (q : Int))]))[j]? = some (some d) from fun j hj => by
              have hql : q < M'.length := (List.getElem?_eq_some_iff.1 ho).1
              by_cases e : q = j
              · subst e
                exact ⟨_, List.getElem?_set_self hql⟩
              · rw [List.getElem?_set_ne e]
                exact hrel'.out.2.2 j (by omega))
            clear hsl ho
            go_wp2_with fail
            refine (variableG_any _ _).mono ?_
            rintro e w3 ⟨rfl, ho3, b3⟩
            have hput := hG'.out.put (u := q) (s := ((some ⟨wr.heap.size, 0, none⟩, 1, 1), [((0 : Int), (q : Int))])) hrel'.out.1.1 b3 ho3
            have hput := Lib.hid hput
            have hB9 := Lib.hid ((hbw'.trans (b3.mono hbw'.size)).setCell (p := ⟨w.heap.size, q, none⟩) (Nat.le_refl _) (.slice (some ⟨wr.heap.size, 0, none⟩) 1 1))
            have hrs := Lib.hid (relIm_set (u := q) (a := ⟨wr.heap.size, 0, none⟩) (c := 1) (d := [((0 : Int), (q : Int))]) hrel'.out.1)
            have hfz3 : w3.frozen? ⟨w.heap.size, q, none⟩ = false := (World.frozen?_of_block (b3.block _ (World.block_lt_of_cell? wr _ hcg))).trans hfz
            have hcg3 := (b3.cell (World.block_lt_of_cell? wr _ hcg)).trans hcg
            clear ho3 b3 hcg hfz
            go_wp2_with fail
            go_roundw
            case rel => exact ⟨q + 1, M'.set q (some [((0 : Int), (q : Int))]), _, by omega, by go_num, ⟨hrs.out, by rw [hfill.out]; exact hrel'.out.2.1, hset.out⟩, hput.out, hB9.out⟩
            case measure => simp [intOf]; omega
          · unfold slV at hcg
            simp only at hcg
            have hset := Lib.hid (show ∀ j, j < q + 1 → ∃ d, M'[j]? = some (some d) from fun j hj => by
              rcases Nat.lt_or_ge j q with h2 | h2
              · exact hrel'.out.2.2 j h2
              · obtain rfl : j = q := by omega
                exact ⟨_, ho⟩)
            clear hsl ho
            go_wp2_with fail
            go_roundw
            case rel => exact ⟨q + 1, M', ss', by omega, by go_num, ⟨hrel'.out.1, hrel'.out.2.1, hset.out⟩, hG'.out, hbw'⟩
            case measure => simp [intOf]; omega
        · obtain rfl : q = 6 := by omega
          have hout := hG'.out.ownSS
          rw [finM_all hrel'.out.1 hrel'.out.2.2, hrel'.out.2.1] at hout
          have hout := Lib.hid hout
          go_wp2_with fail
          go_ret2
          exact ⟨.inl ⟨M, _, hfin.out, rfl, hout.out⟩, hbw'⟩
end Go.Proofs.Ytdpnkojchimmfaa
