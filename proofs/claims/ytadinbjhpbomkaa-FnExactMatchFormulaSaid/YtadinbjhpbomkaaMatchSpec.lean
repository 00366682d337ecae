/- MatchFormula: the reference's walk. -/
import Derived.Test.YtadinbjhpbomkaaMatchForm
namespace Go.Proofs.Ytadinbjhpbomkaa
open Go.RowKit Go.Deep

theorem finM_set {M : Im} {U : Nat} {d : List Nd} (hM : M.length = 6) (hU : U < 6) : finM (M.set U (some d)) = (finM M).set U d := by
  apply List.ext_getElem?
  intro i
  unfold finM
  rw [List.getElem?_map, List.getElem?_set, List.getElem?_map]
  by_cases hi : i < 6
  · rw [List.getElem?_range hi]
    by_cases e : U = i
    · subst e
      simp [List.getD_eq_getElem?_getD, hU, hM]
    · simp [List.getD_eq_getElem?_getD, e]
  · rw [List.getElem?_eq_none (by simp; omega)]
    by_cases e : U = i
    · omega
    · simp [e]
theorem info_boolM : (Try.prog.info? 4).map (fun i => (i.zero, i.size, i.bytes)) = some (some (.bool false), 1, 1) := by kernel_rfl
theorem finM_none : finM noIm = selfL 6 := by
  unfold finM noIm selfL
  rfl

theorem not_bools {w : World} {g : Nat} {s : Sl} {t : TypeId} (h : Nodes w (slV s) s.2) (hp : 0 < s.2.length) (hg : w.heap[g]? = some (.cells #[.bool false, .bool false, .bool false, .bool false, .bool false, .bool false] t)) : (slV s).ownBlock ≠ some g := by
  obtain ⟨c, b, o, he, _, _, hcell⟩ := h.raw hp
  intro e
  rw [he] at e
  obtain rfl : b = g := by simpa [Value.ownBlock] using e
  obtain ⟨⟨x, y⟩, r, hns⟩ : ∃ n r, s.2 = n :: r := by
    cases hs : s.2 with
    | nil => rw [hs] at hp; cases hp
    | cons n r => exact ⟨n, r, rfl⟩
  have h0 := hcell.out 0 (.int .i64 x) (by rw [hns]; rfl)
  unfold World.cell? at h0
  simp [Addr.add, hg] at h0
  rcases o with _ | _ | _ | _ | _ | _ | o <;> simp at h0
theorem OwnFs.mono {K K1 : Nat} {w : World} {v : Value} {ss : List Sl} (h : OwnFs K1 w v ss) (hK : K ≤ K1) : OwnFs K w v ss := ⟨own_mono h.own hK, h.el, h.ap, h.lt, Nat.le_trans hK h.ks⟩

/-- What the reference keeps: the images, and which are known. -/
structure Kn (K g G cap : Nat) (w : World) (M : Im) : Prop where
  len : M.length = 6
  row : w.ownsRow K 4 1 (.slice (some ⟨g, 0, none⟩) 6 6) 6 (M.map fun o => .bool o.isSome)
  im : ∃ ss : List Sl, ss.length = 6 ∧ OwnFs K w (.slice (some ⟨G, 0, none⟩) 6 cap) ss ∧ ss.map (·.2) = finM M ∧ ∀ s ∈ ss, (slV s).ownBlock ≠ some g
  ne : g ≠ G

theorem kn_start1 {w w1 w3 : World} {v : Value} {ss : List Sl} {i0 : TypeInfo} (_h1 : Try.prog.info? 4 = some i0) (_h2 : i0.zero = some (.bool false)) (_h3 : i0.size = 1) (hK : w.heap.size ≤ w1.heap.size) (hw : Below w.heap.size w w1) (ho : OwnFs w1.heap.size w3 v ss) (hss : ss.map (·.2) = selfL 6) (hb : Below w1.heap.size w1 w3) :
    ∃ G cap, v = .slice (some ⟨G, 0, none⟩) 6 cap ∧ Hid (Kn w.heap.size w3.heap.size G cap (w3.alloc (.cells #[.bool false, .bool false, .bool false, .bool false, .bool false, .bool false] 4)) noIm) ∧ Below w.heap.size w (w3.alloc (.cells #[.bool false, .bool false, .bool false, .bool false, .bool false, .bool false] 4)) := by
  have hl : ss.length = 6 := by have := congrArg List.length hss; simpa [selfL] using this
  obtain ⟨G, cap, rfl, hG1, hG2⟩ := ho.open (by omega)
  have hb1 := hw.trans (hb.mono hK)
  have hb2 := (Below.refl w3.heap.size w3).alloc (Nat.le_refl _) (.cells #[.bool false, .bool false, .bool false, .bool false, .bool false, .bool false] 4)
  rw [hl] at ho ⊢
  refine ⟨G, cap, rfl, ⟨rfl, ?_, ⟨ss, hl, (ho.below hb2).mono hK, by rw [hss, finM_none], fun s hs e => ?_⟩, by omega⟩, hb1.trans (hb2.mono hb1.size)⟩
  · exact World.ownsRow_lit w3 #[.bool false, .bool false, .bool false, .bool false, .bool false, .bool false] 6 hb1.size (by simp [maxLen]) rfl
  · have := ho.lt s hs _ e
    omega
theorem kn_start2 {w w3 : World} {v : Value} {ss : List Sl} {i0 : TypeInfo} {n : Nat} (_h1 : Try.prog.info? 4 = some i0) (_h2 : i0.zero = some (.bool false)) (_h3 : i0.size = 1) (ho : OwnFs ((w.alloc (.cells #[.bool false, .bool false, .bool false, .bool false, .bool false, .bool false] 4)).drewN n).heap.size w3 v ss) (hss : ss.map (·.2) = selfL 6)
    (hb : Below ((w.alloc (.cells #[.bool false, .bool false, .bool false, .bool false, .bool false, .bool false] 4)).drewN n).heap.size ((w.alloc (.cells #[.bool false, .bool false, .bool false, .bool false, .bool false, .bool false] 4)).drewN n) w3) :
    ∃ G cap, v = .slice (some ⟨G, 0, none⟩) 6 cap ∧ Hid (Kn w.heap.size w.heap.size G cap w3 noIm) ∧ Below w.heap.size w w3 := by
  have hl : ss.length = 6 := by have := congrArg List.length hss; simpa [selfL] using this
  obtain ⟨G, cap, rfl, hG1, hG2⟩ := ho.open (by omega)
  have r0 : (w.alloc (.cells #[.bool false, .bool false, .bool false, .bool false, .bool false, .bool false] 4)).ownsRow w.heap.size 4 1 (.slice (some ⟨w.heap.size, 0, none⟩) 6 6) 6 _ := World.ownsRow_lit w #[.bool false, .bool false, .bool false, .bool false, .bool false, .bool false] 6 (Nat.le_refl _) (by simp [maxLen]) rfl
  have hW := ((Below.refl w.heap.size w).alloc (Nat.le_refl _) (.cells #[.bool false, .bool false, .bool false, .bool false, .bool false, .bool false] 4)).trans (below_drewN' (w := w.alloc (.cells #[.bool false, .bool false, .bool false, .bool false, .bool false, .bool false] 4)) n _)
  have r1 := own_below r0 (below_drewN' (w := w.alloc (.cells #[.bool false, .bool false, .bool false, .bool false, .bool false, .bool false] 4)) n _) (Nat.le_refl _)
  have hg : ((w.alloc (.cells #[.bool false, .bool false, .bool false, .bool false, .bool false, .bool false] 4)).drewN n).heap[w.heap.size]? = some (.cells #[.bool false, .bool false, .bool false, .bool false, .bool false, .bool false] 4) := by
    show (w.heap.push _)[w.heap.size]? = _
    exact Array.getElem?_push_size
  have hz : ((w.alloc (.cells #[.bool false, .bool false, .bool false, .bool false, .bool false, .bool false] 4)).drewN n).heap.size = w.heap.size + 1 := by
    show (w.alloc _).heap.size = _
    simp
  generalize (w.alloc (.cells #[.bool false, .bool false, .bool false, .bool false, .bool false, .bool false] 4)).drewN n = W at *
  rw [hl] at ho ⊢
  have hg3 := (hb.block w.heap.size (by omega)).trans hg
  refine ⟨G, cap, rfl, ⟨rfl, own_below r1 hb (Nat.le_refl _), ⟨ss, hl, ho.mono (by omega), by rw [hss, finM_none], fun s hs => ?_⟩, by omega⟩, hW.trans (hb.mono hW.size)⟩
  refine not_bools (ho.el s hs) ?_ hg3
  have hm : s.2 ∈ selfL 6 := by rw [← hss]; exact List.mem_map_of_mem hs
  have : ∀ I ∈ selfL 6, 0 < I.length := by decide
  exact this _ hm
theorem Kn.fs {K g G cap : Nat} {w : World} {M : Im} (h : Kn K g G cap w M) : Fs w (.slice (some ⟨G, 0, none⟩) 6 cap) (finM M) := by
  obtain ⟨ss, h1, h2, h3, h4⟩ := h.im
  exact ⟨ss, h2.slices, h2.el, h3⟩
theorem Kn.below {K g G cap : Nat} {w w' : World} {M : Im} (h : Kn K g G cap w M) (hb : Below w.heap.size w w') : Kn K g G cap w' M := by
  obtain ⟨ss, h1, h2, h3, h4⟩ := h.im
  exact ⟨h.len, own_below h.row hb (Nat.le_refl _), ⟨ss, h1, h2.below hb, h3, h4⟩, h.ne⟩
theorem Kn.ks {K g G cap : Nat} {w : World} {M : Im} (h : Kn K g G cap w M) : K ≤ w.heap.size := by
  obtain ⟨ss, h1, h2, h3, h4⟩ := h.im
  exact h2.ks
theorem Kn.gl {K g G cap : Nat} {w : World} {M : Im} (h : Kn K g G cap w M) : K ≤ g ∧ g < w.heap.size ∧ K ≤ G ∧ G < w.heap.size := by
  obtain ⟨ss, h1, h2, h3, h4⟩ := h.im
  exact ⟨(h.row.lt g rfl).1, own_lt h.row g rfl, (h2.own.lt G rfl).1, own_lt h2.own G rfl⟩
theorem Kn.put {K g G cap U m c3 : Nat} {a3 : Option Addr} {w w3 : World} {M : Im} {Pt : List Nd} (h : Kn K g G cap w M) (hU : U < 6) (hb : Below w.heap.size (w.setCell ⟨g, U, none⟩ (.bool true)) w3) (hm : Pt.length = m)
    (ho : w3.ownsRow w.heap.size 59 2 (.slice a3 m c3) m (cellsN Pt)) : Kn K g G cap (w3.setCell ⟨G, U, none⟩ (.slice a3 m c3)) (M.set U (some Pt)) := by
  obtain ⟨ss, h1, h2, h3, h4⟩ := h.im
  obtain ⟨k1, k2, k3, k4⟩ := h.gl
  have hg1 := grown_set w g U (.bool true)
  have hg2 := grown_set w3 G U (.slice a3 m c3)
  have hsz : (w.setCell ⟨g, U, none⟩ (.bool true)).heap.size = w.heap.size := by simp [World.setCell]
  have hb' : Below (w.setCell ⟨g, U, none⟩ (.bool true)).heap.size (w.setCell ⟨g, U, none⟩ (.bool true)) w3 := by rw [hsz]; exact hb
  refine ⟨by rw [List.length_set]; exact h.len, ?_, ⟨ss.set U ((a3, m, c3), Pt), by rw [List.length_set]; exact h1, ⟨?_, ?_, ?_, ?_, ?_⟩, ?_, ?_⟩, h.ne⟩
  · have r1 := (h.row.stored U (.bool true)).1
    have r2 := own_below r1 hb' (Nat.le_refl _)
    have r3 : (w3.setCell ⟨G, U, none⟩ (.slice a3 m c3)).ownsRow K 4 1 (.slice (some ⟨g, 0, none⟩) 6 6) 6 _ := row_same r2 fun k hk _ hl => hg2.block k hl fun e => by
      obtain rfl : g = k := by simpa [Value.ownBlock] using hk
      exact h.ne (by simpa using e)
    rw [List.map_set]
    exact r3
  · have r0 := h2.own
    have r1 : (w.setCell ⟨g, U, none⟩ (.bool true)).ownsRow K 26 1 (.slice (some ⟨G, 0, none⟩) 6 cap) ss.length (ss.map slV) := row_same r0 fun k hk _ hl => hg1.block k hl fun e => by
      obtain rfl : G = k := by simpa [Value.ownBlock] using hk
      exact h.ne (by simpa using e.symm)
    have r2 := own_below r1 hb' (Nat.le_refl _)
    rw [h1] at r2
    have r3 := (r2.stored U (.slice a3 m c3)).1
    rw [List.length_set, h1, List.map_set]
    exact r3
  · intro t ht
    rcases List.mem_or_eq_of_mem_set ht with ht | rfl
    · have n1 := nodes_grown (h2.el t ht) hg1 fun k hk => by
        obtain rfl : g = k := by simpa using hk
        exact h4 t ht
      exact nodes_grown (n1.below hb' (Nat.le_refl _)) hg2 fun k hk => by
        obtain rfl : G = k := by simpa using hk
        exact h2.ap t ht G rfl
    · have n1 : Nodes w3 (slV ((a3, m, c3), Pt)) Pt := nodes_of_own (show w3.ownsRow w.heap.size 59 2 (slV ((a3, m, c3), Pt)) Pt.length (cellsN Pt) by rw [hm]; exact ho)
      exact nodes_grown n1 hg2 fun k hk => by
        obtain rfl : G = k := by simpa using hk
        intro e
        have := (ho.lt G e).1
        omega
  · intro t ht k hk
    obtain rfl : G = k := by simpa [Value.ownBlock] using hk
    rcases List.mem_or_eq_of_mem_set ht with ht | rfl
    · exact h2.ap t ht G rfl
    · intro e
      have := (ho.lt G e).1
      omega
  · intro t ht k hk
    have hs2 : w3.heap.size ≤ (w3.setCell ⟨G, U, none⟩ (.slice a3 m c3)).heap.size := hg2.size
    have hs1 := hb'.size
    rcases List.mem_or_eq_of_mem_set ht with ht | rfl
    · have := h2.lt t ht k hk
      omega
    · have := (ho.lt k hk).2
      omega
  · have hs2 : w3.heap.size ≤ (w3.setCell ⟨G, U, none⟩ (.slice a3 m c3)).heap.size := hg2.size
    have hs1 := hb'.size
    have := h2.ks
    omega
  · rw [List.map_set, h3, finM_set h.len hU]
  · intro t ht
    rcases List.mem_or_eq_of_mem_set ht with ht | rfl
    · exact h4 t ht
    · intro e
      have := (ho.lt g e).1
      omega
theorem nodes_slice {w : World} {bb ob cb T m c : Nat} {b : List Nd} (h : Nodes w (.slice (some ⟨bb, ob, none⟩) b.length cb) b) (hp : 0 < b.length) (hme : partEndL b T = ((T + m : Nat) : Int)) (hm1 : T + m ≤ b.length) (hc : m ≤ c) (hx : b.length ≤ 40) : Nodes w (.slice (some ⟨bb, ob + T * 2, none⟩) m c) (partL b T) := by
  obtain ⟨c', b', o', he, _, hcm, hcell⟩ := h.raw hp
  injection he with h1 h2 h3
  obtain ⟨rfl, rfl⟩ : bb = b' ∧ ob = o' := by simpa using h1
  rw [← partL_eq hme]
  exact nodes_piece hcell.out hc (by unfold maxLen; omega) hm1 fun _ => rfl

set_option maxHeartbeats 4000000 in
theorem l03Match_any (v u : Value) (a b : List Nd) (w : World) (h : Nodes w v a) (hu : Nodes w u b) (ha : formB a = true) (hb : formB b = true) :
    Calls Try.prog 66 #[v, u] w fun e w' => ((∃ M v', mtOpt a b = some M ∧ e = .returned (.tuple #[v', .bool true]) ∧ Fs w' v' (finM M)) ∨ (mtOpt a b = none ∧ e = .returned (.tuple #[.slice none 0 0, .bool false]))) ∧ Below w.heap.size w w' := by
  obtain ⟨i0, hi, hz0, hz1, hz2⟩ := info_parts info_boolM
  have hI := Lib.hid (And.intro hi (And.intro hz0 (And.intro hz1 hz2)))
  clear hi hz0 hz1 hz2
  obtain ⟨la0, la1⟩ := form_len3 ha
  obtain ⟨lb0, lb1⟩ := form_len3 hb
  obtain ⟨_, aa, ca, ba, oa, rfl, hca, haa, hcella⟩ := h.opened
  obtain ⟨_, ab, cb, bb, ob, rfl, hcb, hab, hcellb⟩ := hu.opened
  obtain rfl : aa = some ⟨ba, oa, none⟩ := by rcases haa with haa | ⟨_, haa⟩; · omega
                                              exact haa
  obtain rfl : ab = some ⟨bb, ob, none⟩ := by rcases hab with hab | ⟨_, hab⟩; · omega
                                              exact hab
  have hub := Lib.hid hu
  have hal := Lib.hid (form_all3 ha)
  have hbf := Lib.hid hb
  have hop := Lib.hid (open2_start ha hb)
  have hR0 := Lib.hid (show mGo b (a.drop 0) 0 noIm = mtOpt a b by rw [List.drop_zero]; rfl)
  clear h hu ha hb haa hab
  generalize mtOpt a b = R at *
  go_enter Try.func66, Try.ntmps66
  go_upto_region 1 with fail
  go_cut [6, 7] from 12 to 13 (fun s t wx => ∃ g G cap, s = .slice (some ⟨G, 0, none⟩) 6 cap ∧ t = .slice (some ⟨g, 0, none⟩) 6 6 ∧ Hid (Kn w.heap.size g G cap wx noIm) ∧ Below w.heap.size w wx)
  case first =>
    have hself := Lib.hid (fun W => l03Self_any W)
    clear hcella hcellb hub hal hbf hop hR0 la0 la1 lb0 lb1
    have hmk : ∀ w : World, (Instr.makeSlice 96 (.int .i64 6) (.int .i64 6)).run Try.prog w = .ok (.slice (some ⟨w.heap.size, 0, none⟩) 6 6) (w.alloc (.cells #[.bool false, .bool false, .bool false, .bool false, .bool false, .bool false] 4)) := fun w => by kernel_rfl
    go_region_with (first | (go_at_call 87; refine (hself.out _).mono ?_; rintro e w3 ⟨v3, ss, rfl, ho, hss, b3⟩))
    all_goals
      have ho := Lib.hid ho
      have hss := Lib.hid hss
      have b3 := Lib.hid b3
      go_wp2_with fail
      go_meet
    · obtain ⟨G, cap, e1, e2, e3⟩ := kn_start1 (w := w) hI.out.1 hI.out.2.1 hI.out.2.2.1 (w1 := w.drew) (Nat.le_refl _) ((Below.refl w.heap.size w).drew) ho.out hss.out b3.out
      exact ⟨_, G, cap, e1, rfl, e2, e3⟩
    all_goals
      obtain ⟨G, cap, e1, e2, e3⟩ := kn_start2 hI.out.1 hI.out.2.1 hI.out.2.2.1 ho.out hss.out b3.out
      exact ⟨_, G, cap, e1, rfl, e2, e3⟩
  case rest =>
    obtain ⟨g, G, cap, rfl, rfl, hKn, hbc⟩ := hcut
    go_wp2_with fail
    go_loopw [8, 9] (fun t i wr => ∃ (k T : Nat) (M : Im), k ≤ a.length ∧ i = .int .i64 k ∧ t = .int .i64 T ∧ T ≤ b.length ∧ Hid (mGo b (a.drop k) T M = R) ∧ Hid (smIm M) ∧ Hid (Open2 a b k T) ∧ Hid (Kn w.heap.size g G cap wr M) ∧ Below w.heap.size w wr) (fun _ i _ => a.length - (intOf i).toNat)
    case atStart => exact ⟨0, 0, noIm, Nat.zero_le _, rfl, rfl, Nat.zero_le _, hR0.out, smIm_none, hop.out, hKn.out, hbc⟩
    case round =>
      clear hKn hbc hR0 hop
      obtain ⟨k, T, M, hk, rfl, rfl, hT, hR, hsm, hopn, hKn, hbw⟩ := hrel
      by_cases hlt : k < a.length
      · have hTb := open2_pos hopn.out hlt
        have hTi : (T : Int) < (b.length : Int) := by omega
        obtain ⟨x, y, hx, hcx, hcy⟩ := hcella.out k hlt
        have hcx := (hbw.cell (p := ⟨ba, oa + k * 2, none⟩) (World.block_lt_of_cell? w _ hcx)).trans hcx
        have hcy := (hbw.cell (p := ⟨ba, oa + k * 2 + 1, none⟩) (World.block_lt_of_cell? w _ hcy)).trans hcy
        have hxh := Lib.hid hx
        have hnb := List.all_eq_true.1 hal.out (x, y) (List.mem_of_getElem? hx)
        clear hx
        by_cases hx0 : x = 0
        · subst hx0
          unfold nodeB at hnb
          simp at hnb
          obtain ⟨U, rfl⟩ : ∃ U : Nat, y = (U : Int) := ⟨y.toNat, by omega⟩
          have hU : U < 6 := by omega
          have hUi : (U : Int) < 6 := by omega
          clear hnb
          obtain ⟨m, hm0, hm1, hme⟩ := part_in hbf.out hTb
          have hpart := Lib.hid (fun W (hW : Below w.heap.size w W) => show Calls Try.prog 97 #[.slice (some ⟨bb, ob, none⟩) b.length cb, .int .i64 (T : Int)] W fun e w' => e = .returned (.int .i64 ((T + m : Nat) : Int)) ∧ W = w' from by
            have h9 := l02Part_any _ b (T : Int) W (hub.out.below hW (Nat.le_refl _)) (by omega) (by omega) (by omega)
            rw [Int.toNat_natCast, hme] at h9
            exact h9)
          have hpn := Lib.hid (fun W (hW : Below w.heap.size w W) => nodes_slice (c := cb - T) (hub.out.below hW (Nat.le_refl _)) lb0 hme hm1 (by omega) lb1)
          have hpl := partL_eq hme
          have hop2 := Lib.hid (open2_part hopn.out hxh.out hme hm1)
          have hP40 := partL_le lb1 T
          have hplen : (partL b T).length = m := by rw [← hpl, List.length_take, List.length_drop]; omega
          have hplenh := Lib.hid hplen
          clear hme hpl
          have hTm : (T : Int) ≤ ((T + m : Nat) : Int) := by omega
          have hTm2 : ((T + m : Nat) : Int) ≤ (cb : Int) := by omega
          have hTm0 : (0 : Int) ≤ (T : Int) := by omega
          clear hplen
          go_wp2_with fail
          go_quiet ((go_at_call 97; exact quiet_eq (hpart.out _ (hbw.trans (below_drewN' _ _)))))
          go_upto_region 13 with fail
          have hmm : T + m - T = m := by omega
          rw [hmm]
          clear hmm
          have hK := Lib.hid (hKn.out.below (below_drewN' nq _))
          have hB := hbw.trans (below_drewN' nq _)
          clear hKn hbw hcx hcy hpart hTm hTm2 hTm0
          generalize wr.drewN nq = W1 at *
          obtain ⟨ss, hs6, hO, hsF, hsg⟩ := hK.out.im
          obtain ⟨sl, hsl⟩ : ∃ s, ss[U]? = some s := ⟨_, List.getElem?_eq_getElem (by omega)⟩
          obtain ⟨o, ho⟩ : ∃ o, M[U]? = some o := ⟨_, List.getElem?_eq_getElem (by have := hK.out.len; omega)⟩
          have hcg : W1.cell? ⟨g, U, none⟩ = some (.bool o.isSome) := by rw [hK.out.row.cellAt U (by omega), List.getElem?_map, ho]; rfl
          have hfg : W1.frozen? ⟨g, U, none⟩ = false := hK.out.row.frozenAt U
          have h9 := hO.own
          rw [hs6] at h9
          have hcG : W1.cell? ⟨G, U, none⟩ = some (slV sl) := by rw [h9.cellAt U (by omega), List.getElem?_map, hsl]; rfl
          have hfG : W1.frozen? ⟨G, U, none⟩ = false := h9.frozenAt U
          have hnS := Lib.hid (hO.el _ (List.mem_of_getElem? hsl))
          have hsd : sl.2 = o.getD [((0 : Int), (U : Int))] := by
            have h8 := congrArg (·[U]?) hsF
            simp only [List.getElem?_map, hsl, finM, List.getElem?_range hU, List.getD_eq_getElem?_getD, ho] at h8
            simpa [ho] using h8
          clear h9 hsl hO hsF hsg hs6
          obtain ⟨⟨za, zn, zc⟩, zl⟩ := sl
          unfold slV at hcG hnS
          simp only at hcG hnS hsd
          cases o with
          | none =>
            have hnext := Lib.hid (mGo_new (b := b) hxh.out ho hplenh.out)
            clear hsd ho hnS
            simp only [Option.isSome_none] at hcg
            generalize hP : partL b T = Pt at *
            replace hP := Lib.hid hP
            have hgl := hK.out.gl
            have hsz : (W1.setCell ⟨g, U, none⟩ (.bool true)).heap.size = W1.heap.size := by simp [World.setCell]
            have hB2 := Lib.hid (hB.setCell (p := ⟨g, U, none⟩) hgl.1 (.bool true))
            have hown := Lib.hid (l02Own_any _ Pt _ (hpn.out _ hB2.out) (by rw [hplenh.out]; exact hm0) (by rw [hplenh.out]; omega))
            rw [hplenh.out] at hown
            have hcG2 : (W1.setCell ⟨g, U, none⟩ (.bool true)).cell? ⟨G, U, none⟩ = some (.slice za zn zc) := (World.cell?_setCell_far _ _ _ _ (by simpa using hK.out.ne)).trans hcG
            have hfG2 : (W1.setCell ⟨g, U, none⟩ (.bool true)).frozen? ⟨G, U, none⟩ = false := by rw [World.frozen?_setCell]; exact hfG
            replace hsz := Lib.hid hsz
            clear hcG hfG
            go_wp2_with fail
            refine hown.out.mono ?_
            rintro e w3 ⟨v3, rfl, ho3, b3⟩
            have h5 := (nodes_of_own (show w3.ownsRow _ 59 2 v3 Pt.length (cellsN Pt) by rw [hplenh.out]; exact ho3)).shape
            rw [hplenh.out] at h5
            obtain ⟨a3, c3, hsh⟩ := h5
            subst hsh
            have hcG3 := (b3.cell (World.block_lt_of_cell? _ _ hcG2)).trans hcG2
            have hfG3 : w3.frozen? ⟨G, U, none⟩ = false := (World.frozen?_of_block (b3.block _ (World.block_lt_of_cell? _ _ hcG2))).trans hfG2
            have hB3 := Lib.hid ((hB2.out.trans (b3.mono hB2.out.size)).setCell (p := ⟨G, U, none⟩) hgl.2.2.1 (.slice a3 m c3))
            rw [hsz.out] at ho3 b3
            have hput := Lib.hid (hK.out.put hU b3 hplenh.out ho3)
            clear ho3 b3 hcg hfg hcG2 hfG2 hgl hB
            go_wp2_with fail
            go_roundw
            case rel => exact ⟨k + 1, T + m, M.set U (some Pt), by omega, by go_num, by go_num, by omega, by rw [← hR.out]; exact hnext.out.symm, smIm_set hsm.out hP40, hop2.out, hput.out, hB3.out⟩
            case measure => simp [intOf]; omega
          | some d =>
            have hold := Lib.hid (mGo_old (b := b) hxh.out ho hplenh.out)
            have hdl : d.length ≤ 40 := hsm.out.2 d (List.mem_of_getElem? ho)
            simp only [Option.getD_some] at hsd
            subst hsd
            clear ho
            simp only [Option.isSome_some] at hcg
            generalize hP : partL b T = Pt at *
            replace hP := Lib.hid hP
            have hsame := Lib.hid (l02Equal_any _ _ zl Pt W1 hnS.out (hpn.out _ hB) (by omega))
            clear hnS
            by_cases hde : zl = Pt
            · have hnext := Lib.hid (show mGo b (a.drop k) T M = mGo b (a.drop (k + 1)) (T + m) (M.set U (some Pt)) by rw [hold.out, if_pos hde])
              have hdd := Lib.hid (show decide (zl = Pt) = true from decide_eq_true hde)
              clear hde
              go_wp2_with fail
              refine hsame.out.mono ?_
              rintro e W2 ⟨rfl, hbS⟩
              rw [hdd.out]
              replace hK := Lib.hid (hK.out.below hbS)
              replace hfg : W2.frozen? ⟨g, U, none⟩ = false := (World.frozen?_of_block (hbS.block _ (World.block_lt_of_cell? _ _ hcg))).trans hfg
              replace hfG : W2.frozen? ⟨G, U, none⟩ = false := (World.frozen?_of_block (hbS.block _ (World.block_lt_of_cell? _ _ hcG))).trans hfG
              replace hcg := (hbS.cell (World.block_lt_of_cell? _ _ hcg)).trans hcg
              replace hcG := (hbS.cell (World.block_lt_of_cell? _ _ hcG)).trans hcG
              replace hB := hB.trans (hbS.mono hB.size)
              clear hbS
              have hgl := hK.out.gl
              have hsz : (W2.setCell ⟨g, U, none⟩ (.bool true)).heap.size = W2.heap.size := by simp [World.setCell]
              have hB2 := Lib.hid (hB.setCell (p := ⟨g, U, none⟩) hgl.1 (.bool true))
              have hown := Lib.hid (l02Own_any _ Pt _ (hpn.out _ hB2.out) (by rw [hplenh.out]; exact hm0) (by rw [hplenh.out]; omega))
              rw [hplenh.out] at hown
              have hcG2 : (W2.setCell ⟨g, U, none⟩ (.bool true)).cell? ⟨G, U, none⟩ = some (.slice za zn zc) := (World.cell?_setCell_far _ _ _ _ (by simpa using hK.out.ne)).trans hcG
              have hfG2 : (W2.setCell ⟨g, U, none⟩ (.bool true)).frozen? ⟨G, U, none⟩ = false := by rw [World.frozen?_setCell]; exact hfG
              replace hsz := Lib.hid hsz
              clear hcG hfG
              go_wp2_with fail
              refine hown.out.mono ?_
              rintro e w3 ⟨v3, rfl, ho3, b3⟩
              have h5 := (nodes_of_own (show w3.ownsRow _ 59 2 v3 Pt.length (cellsN Pt) by rw [hplenh.out]; exact ho3)).shape
              rw [hplenh.out] at h5
              obtain ⟨a3, c3, hsh⟩ := h5
              subst hsh
              have hcG3 := (b3.cell (World.block_lt_of_cell? _ _ hcG2)).trans hcG2
              have hfG3 : w3.frozen? ⟨G, U, none⟩ = false := (World.frozen?_of_block (b3.block _ (World.block_lt_of_cell? _ _ hcG2))).trans hfG2
              have hB3 := Lib.hid ((hB2.out.trans (b3.mono hB2.out.size)).setCell (p := ⟨G, U, none⟩) hgl.2.2.1 (.slice a3 m c3))
              rw [hsz.out] at ho3 b3
              have hput := Lib.hid (hK.out.put hU b3 hplenh.out ho3)
              clear ho3 b3 hcg hfg hcG2 hfG2 hgl hB
              go_wp2_with fail
              go_roundw
              case rel => exact ⟨k + 1, T + m, M.set U (some Pt), by omega, by go_num, by go_num, by omega, by rw [← hR.out]; exact hnext.out.symm, smIm_set hsm.out hP40, hop2.out, hput.out, hB3.out⟩
              case measure => simp [intOf]; omega
            · have hfin := Lib.hid (show R = none by rw [← hR.out, hold.out, if_neg hde])
              have hdd := Lib.hid (show decide (zl = Pt) = false from decide_eq_false hde)
              clear hde
              go_wp2_with fail
              refine hsame.out.mono ?_
              rintro e W2 ⟨rfl, hbS⟩
              rw [hdd.out]
              replace hB := hB.trans (hbS.mono hB.size)
              clear hbS
              go_wp2_with fail
              go_ret2
              exact ⟨.inr ⟨hfin.out, rfl⟩, hB⟩
        · obtain ⟨x', y', hx', hcx', hcy'⟩ := hcellb.out T hTb
          have lx' := World.block_lt_of_cell? w _ hcx'
          have hcx' := (hbw.cell (p := ⟨bb, ob + T * 2, none⟩) lx').trans hcx'
          have hcy' := (hbw.cell (p := ⟨bb, ob + T * 2 + 1, none⟩) lx').trans hcy'
          have hstep := Lib.hid (mGo_node (b := b) (t := T) (M := M) hxh.out hx0)
          have hxne : (x != 0) = true := by rw [bne_iff_ne]; exact hx0
          have hx'h := Lib.hid hx'
          clear hx' hx0
          by_cases he : x = x' ∧ y = y'
          · obtain ⟨rfl, rfl⟩ := he
            have hnext := Lib.hid (show mGo b (a.drop k) T M = mGo b (a.drop (k + 1)) (T + 1) M by rw [hstep.out, if_pos hx'h.out])
            have hop2 := Lib.hid (open2_node hopn.out hxh.out hx'h.out)
            go_wp2_with fail
            go_quiet (fail)
            go_wp2_with fail
            go_roundw
            case rel => exact ⟨k + 1, T + 1, M, by omega, by go_num, by go_num, by omega, by rw [← hR.out]; exact hnext.out.symm, hsm.out, hop2.out, hKn.out.below (below_drewN' _ _), hbw.trans (below_drewN' _ _)⟩
            case measure => simp [intOf]; omega
          · have hfin := Lib.hid (show R = none by
              rw [← hR.out, hstep.out, if_neg]
              rw [hx'h.out]
              intro e
              have h9 := Option.some.inj e
              simp only [Prod.mk.injEq] at h9
              exact he ⟨h9.1.symm, h9.2.symm⟩)
            by_cases hxe : x = x'
            · have hye : (y == y') = false := by rw [beq_eq_false_iff_ne]; exact fun h => he ⟨hxe, h⟩
              subst hxe
              clear he
              go_wp2_with fail
              go_quiet (fail)
              go_wp2_with fail
              go_ret2
              exact ⟨.inr ⟨hfin.out, rfl⟩, hbw.trans (below_drewN' _ _)⟩
            · have hye : (x == x') = false := by rw [beq_eq_false_iff_ne]; exact hxe
              clear he hxe
              go_wp2_with fail
              go_quiet (fail)
              go_wp2_with fail
              go_ret2
              exact ⟨.inr ⟨hfin.out, rfl⟩, hbw.trans (below_drewN' _ _)⟩
      · obtain rfl : k = a.length := by omega
        have hfin := Lib.hid (show R = some M by rw [← hR.out]; exact mGo_end (Nat.le_refl _))
        have hTe := Lib.hid (open2_end hopn.out hT)
        obtain rfl : T = b.length := hTe.out
        have hF := Lib.hid hKn.out.fs
        clear hR hopn hT hTe
        have hTT : ((b.length : Int) == (b.length : Int)) = true := by simp
        go_wp2_with fail
        go_ret2
        exact ⟨.inl ⟨M, _, hfin.out, by simp, hF.out⟩, hbw⟩
end Go.Proofs.Ytadinbjhpbomkaa
