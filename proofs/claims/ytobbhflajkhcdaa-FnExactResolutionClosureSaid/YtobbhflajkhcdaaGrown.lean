/- spec.l04Grown, all of it. -/
import Derived.Test.YtobbhflajkhcdaaGrownSt
import Derived.Test.YtobbhflajkhcdaaSortSpec
import Derived.Test.YtobbhflajkhcdaaResSpec
import Derived.Test.YtobbhflajkhcdaaCloImpl
namespace Go.Proofs.Ytobbhflajkhcdaa
open Go.RowKit
set_option linter.unusedVariables false
set_option linter.unusedSimpArgs false

theorem info_boolT : (Try.prog.info? 4).map (fun i => (i.zero, i.size, i.bytes)) = some (some (.bool false), 1, 1) := by kernel_rfl
theorem info_stpT : (Try.prog.info? 34).map (fun i => (i.zero, i.size, i.bytes)) = some (some (.agg #[.slice none 0 0, .int .i64 0, .int .i64 0, .int .i64 0]), 4, 48) := by kernel_rfl
theorem made_known : (madeCells (Value.bool false).cells (729 * 1)).toList = (knownL []).map Value.bool := by
  have : (Value.bool false).cells = #[.bool false] := rfl
  rw [this, Nat.mul_one, toList_madeCells_one, knownL_nil, List.map_replicate]
set_option maxHeartbeats 16000000 in
set_option maxRecDepth 100000 in
theorem l04Grown_any (v : Value) (Is : List (List Int)) (w : World) (h : Fi w v Is) (hn : Is.length ≤ 1048576) (hI : ∀ I ∈ Is, clauseB I = true) :
    Calls Try.prog 13 #[v, .bool true] w fun e w' => ∃ (vs : Value) (ss : List StV) (L : List (List Int)), e = .returned vs ∧ Hid ((∀ x, x ∈ L ↔ Clo Is x) ∧ L.length ≤ 4096 ∧ ss.length = L.length ∧ w'.ownsRow w.heap.size 34 4 vs ss.length (cellsSt ss) ∧ ∀ (i : Nat) (s : StV) (c : List Int), ss[i]? = some s → L[i]? = some c → Ints w' s.1 c ∧ ∀ k, s.1.ownBlock = some k → w.heap.size ≤ k ∧ k < w'.heap.size) ∧ Below w.heap.size w w' := by
  obtain ⟨i0, hi, hz0, hz1, hz2⟩ := info_parts info_boolT
  obtain ⟨j0, hj9, hy0, hy1, hy2⟩ := info_parts info_stpT
  have hso := Lib.hid (fun W (hb : Below w.heap.size w W) => l04Sorted_any v Is W (h.below hb (Nat.le_refl _)) hn (fun r hr => by have := clause_len (hI r hr); omega))
  have hIs := Lib.hid hI
  clear h hI
  go_enter Try.func13, Try.ntmps13
  go_upto_region 2 with (first | (at_make; refine wpList_make_full _ rfl _ _ 42 rfl w.heap.size 4 i0 (.bool false) 1 Try.underlying42 hi hz0 hz1 _ _ _ _ 729 rfl rfl rfl rfl (by rw [hz2]; omega) (by unfold maxLen; omega) (Nat.le_refl _) ?_; intro w1 hown1 hgr1) | go_in)
  rw [made_known] at hown1
  have hb1 := Lib.hid (below_of_grownBy hgr1 (Nat.le_refl _) (by simp))
  have hgk1 := (hown1.lt w.heap.size rfl).2
  have hg1 := Lib.hid (show GrowS w.heap.size w.heap.size (w1.alloc (.cells #[] 34)) (.slice (some ⟨w1.heap.size, 0, none⟩) 0 0) [] [] from
    ⟨World.ownsRow_lit (e := 34) (base := w.heap.size) (size := 4) w1 #[] 0 hb1.out.size (by simp [maxLen]) rfl, own_below hown1 ((Below.refl _ _).alloc (Nat.le_refl _) _) (Nat.le_refl _), rfl, fun i s c hs => by simp at hs, fun s hs => absurd hs List.not_mem_nil, by simp [Value.ownBlock]; omega, by have := hb1.out.size; simp; omega⟩)
  have hb2 := Lib.hid (hb1.out.alloc hb1.out.size (.cells #[] 34))
  clear hown1 hgr1 hb1 hi hz0 hz1 hz2 i0
  go_wp2_with fail
  refine (hso.out _ hb2.out).mono ?_
  rintro e w3 ⟨v3, rfl, f3, b3⟩
  have hB3 := Lib.hid (keep_step b3 hb2.out)
  have hg3 := Lib.hid (hg1.out.below b3)
  obtain ⟨sb, so, sc, st, rfl, hsc, hsm, hsb, hst, hsl⟩ := f3
  have hgw := hB3.out.size
  have hlo := Lib.hid (show ∀ q, (w1.alloc (.cells #[] 34)).heap.size ≤ q → w1.heap.size ≠ q ∧ w.heap.size ≠ q from fun q hq => by
    simp at hq
    exact ⟨by omega, by omega⟩)
  have hB2s := hb2.out.size
  have hS0 := Lib.hid (show StartSt w.heap.size w.heap.size 0 sb so w w3 (.slice (some ⟨w1.heap.size, 0, none⟩) 0 0) [] st 0 from
    ⟨hg3.out, ⟨by simpa [Value.ownBlock] using (hlo.out sb hsb.1).1, fun s hs q hq => by
      obtain ⟨i9, hi9⟩ := List.getElem?_of_mem hs
      simpa [Value.ownBlock] using (hlo.out q ((hst i9 s hi9).2.2 q hq).1).1⟩, ⟨⟨(hlo.out sb hsb.1).2, hsb.2⟩, fun s hs q hq => by
      obtain ⟨i9, hi9⟩ := List.getElem?_of_mem hs
      exact ⟨by have h7 := ((hst i9 s hi9).2.2 q hq).1; have h8 := hB2s; omega, (hlo.out q ((hst i9 s hi9).2.2 q hq).1).2, ((hst i9 s hi9).2.2 q hq).2⟩⟩, fun i s hs => ⟨(hst i s hs).1, (hst i s hs).2.1⟩, hB3.out⟩)
  have hstl : st.length ≤ 1048576 := by
    have h1 := congrArg List.length hsl
    have h2 := allU_len2 (T := Is) Is.length
    rw [List.length_map] at h1
    rw [List.take_length] at h2
    omega
  have hcl := Lib.hid (show ∀ s ∈ st, clauseB s.2 = true from fun s hs => by
    have h1 : s.2 ∈ allU ltI Is := by rw [← hsl]; exact List.mem_map.2 ⟨s, hs, rfl⟩
    have h2 := ((allU_fold lo_lists Is [] List.Pairwise.nil).2 s.2).1 h1
    exact hIs.out _ (by simpa using h2))
  have hbeg := Lib.hid (show CloSt Is (st.map Prod.snd) 0 0 from by
    rw [hsl]
    refine CloSt.begin (nodup_strict (allU_fold lo_lists Is [] List.Pairwise.nil).1) (fun x => ?_)
    have h2 := (allU_fold lo_lists Is [] List.Pairwise.nil).2 x
    exact h2.trans (by simp))
  clear b3 hb2 hg1 hg3 hst hsl hsb hlo hB3
  unfold maxLen at hsm
  go_wp2_with fail
  go_loopw [6, 8] (fun vs s8 wr => ∃ (k : Nat) (ss : List StV), k ≤ st.length ∧ s8 = .int .i64 k ∧ ss.length ≤ k ∧ Hid (StartSt w.heap.size w.heap.size 0 sb so w wr vs ss st k)) (fun _ s8 _ => st.length - (intOf s8).toNat)
  case atStart => exact ⟨0, [], Nat.zero_le _, rfl, Nat.zero_le _, hS0⟩
  case round =>
    clear hS0
    obtain ⟨k, ss, hk, rfl, hssk, hS⟩ := hrel
    obtain ⟨vs, hvs⟩ : ∃ vs, vs = u6 := ⟨_, rfl⟩
    subst hvs
    by_cases hlt : k < st.length
    · obtain ⟨s, hs⟩ : ∃ s, st[k]? = some s := ⟨_, List.getElem?_eq_getElem hlt⟩
      obtain ⟨hc0, hi0⟩ := hS.out.r k s hs
      have hc1 := hcl.out s (List.mem_of_getElem? hs)
      have hcode := Lib.hid (l04Code3_any (slVI s) s.2 wr hi0 hc1)
      have hq := code3_lt hc1
      have hadd := Lib.hid (fun w5 w7 vs7 h1 h2 h3 h4 => hS.out.add (x := -1) (y := -1) (z := -1) (w5 := w5) (w7 := w7) (vs7 := vs7) hs hq (Nat.le_refl _) h1 h2 h3 h4)
      obtain ⟨⟨_, _, hcz⟩, hfz⟩ := own_cell hS.out.g.kn hq
      have hsbn : sb ≠ w.heap.size := fun e => hS.out.z.1.1 e.symm
      obtain ⟨⟨sa, sn, sc9⟩, sx⟩ := s
      unfold slVI at hc0 hcode hadd
      dsimp only at hc0 hcode hadd hq hcz hfz
      have hownv := Lib.hid hS.out.g.own
      have hkvn := Lib.hid (show vs.ownBlock ≠ some w.heap.size from hS.out.g.kv)
      have hks := hS.out.g.ks
      generalize hqq : code3 sx 6 = q at *
      have hqq := Lib.hid hqq
      have hq2 : (q : Int) < 729 := by omega
      have hcm : (wr.setCell ⟨w.heap.size, q, none⟩ (.bool true)).cell? ⟨sb, so + k, none⟩ = some (.slice sa sn sc9) := by
        rw [World.cell?_setCell_other _ _ _ _ (by intro e; simp only [Addr.mk.injEq] at e; exact hsbn e.1.symm)]
        exact hc0
      clear hi0 hc1 hS hs
      go_upto_region 8 with (go_at_call 26; refine hcode.out.mono ?_; rintro e w' ⟨rfl, rfl⟩)
      have hkm := Lib.hid (show (wr.setCell ⟨w.heap.size, q, none⟩ (.bool true)).ownsRow w.heap.size 34 4 vs ss.length (cellsSt ss) from hownv.out.kept (grown_setI wr w.heap.size q _) (.inr hkvn.out))
      have hksm : w.heap.size ≤ (wr.setCell ⟨w.heap.size, q, none⟩ (.bool true)).heap.size := by simp; omega
      generalize hWm : wr.setCell ⟨w.heap.size, q, none⟩ (.bool true) = wm at *
      clear hWm hcz hfz hc0 hownv
      have hbA := Lib.hid ((Below.refl wm.heap.size wm).alloc (Nat.le_refl _) (.cells #[.slice sa sn sc9, .int .i64 (-1), .int .i64 (-1), .int .i64 (-1)] 34))
      have hownA := Lib.hid (own_below hkm.out hbA.out (Nat.le_refl _))
      have hnew := Lib.hid (cell_four_new wm (.slice sa sn sc9) (.int .i64 (-1)) (.int .i64 (-1)) (.int .i64 (-1)) 34)
      have hksA : w.heap.size ≤ (wm.alloc (.cells #[.slice sa sn sc9, .int .i64 (-1), .int .i64 (-1), .int .i64 (-1)] 34)).heap.size := by simp; omega
      have hmx1 : ss.length + 1 ≤ maxLen := by unfold maxLen; omega
      have hmx2 : (ss.length + 1) * 48 ≤ 140737488355328 := by omega
      have hl4 : [Value.slice sa sn sc9, .int .i64 (-1), .int .i64 (-1), .int .i64 (-1)].length = 1 * 4 := rfl
      have hl9 := Lib.hid (show (ss ++ [((Value.slice sa sn sc9, -1, -1, -1) : StV)]).length = ss.length + 1 by simp)
      go_wp2_with (at_builtin; refine wpList_append_own_at _ rfl _ _ 31 rfl w.heap.size 34 j0 (.agg #[.slice none 0 0, .int .i64 0, .int .i64 0, .int .i64 0]) 4 48 Try.underlying31 hj9 hy0 hy1 hy2 rfl (by decide) vs ss.length (cellsSt ss) rfl hownA.out ⟨wm.heap.size, 0, none⟩ 1 1 [.slice sa sn sc9, .int .i64 (-1), .int .i64 (-1), .int .i64 (-1)] rfl hl4 hnew.out (by simp [Value.oneCell']) hmx1 hmx2 hksA ?_; intro v7 w7 hown7 hgrow7 _ hblk7)
      have hfin := Lib.hid (hadd.out _ w7 v7 hbA.out hown7 hgrow7 hblk7)
      clear hown7 hgrow7 hblk7
      go_roundw
      case rel => exact ⟨k + 1, ss ++ [((Value.slice sa sn sc9, -1, -1, -1) : StV)], by omega, by go_num, by rw [hl9.out]; omega, hfin⟩
      case measure => simp [intOf]; omega
    · obtain rfl : k = st.length := by omega
      have hG0 := Lib.hid (show GrSt w.heap.size w.heap.size Is w wr vs ss (st.map Prod.snd) 0 0 from ⟨by have := hS.out.g; rwa [List.take_of_length_le (by rw [List.length_map]; exact Nat.le_refl _)] at this, hbeg.out, hS.out.b⟩)
      clear hS
      go_wp2_with fail
      go_loopw [6, 9] (fun vs s9 wr => ∃ (j : Nat) (ss : List StV) (L : List (List Int)), s9 = .int .i64 j ∧ j ≤ ss.length ∧ Hid (GrSt w.heap.size w.heap.size Is w wr vs ss L j 0)) (fun _ s9 _ => 4097 - (intOf s9).toNat)
      case atStart => exact ⟨0, ss, _, rfl, Nat.zero_le _, hG0⟩
      case round =>
        clear hG0
        obtain ⟨j, ss, L, rfl, hj, hS⟩ := hrel
        have hlen := hS.out.c.len hIs.out
        rw [← hS.out.g.len] at hlen
        obtain ⟨a, c, hv6⟩ : ∃ a c, u6 = .slice a ss.length c := by
          rcases hS.out.g.own.2 with ⟨e, h0⟩ | ⟨g, cap, cur, e, _⟩
          · exact ⟨none, 0, by rw [e, h0]⟩
          · exact ⟨_, _, e⟩
        subst hv6
        by_cases hlt : j < ss.length
        · go_wp2_with fail
          go_loopw [6, 10] (fun vs s10 wr => ∃ (i : Nat) (ss : List StV) (L : List (List Int)), s10 = .int .i64 i ∧ i ≤ j ∧ j < ss.length ∧ Hid (GrSt w.heap.size w.heap.size Is w wr vs ss L j i)) (fun _ s10 _ => j - (intOf s10).toNat)
          case atStart => exact ⟨0, ss, L, rfl, Nat.zero_le _, hlt, hS⟩
          case round =>
            clear hS hlt hlen hj
            obtain ⟨i, ss, L, rfl, hij, hjs, hS⟩ := hrel
            have hlen := hS.out.c.len hIs.out
            rw [← hS.out.g.len] at hlen
            by_cases hlt3 : i < j
            · obtain ⟨ci, hci⟩ : ∃ x, L[i]? = some x := ⟨_, List.getElem?_eq_getElem (by rw [← hS.out.g.len]; omega)⟩
              obtain ⟨cj, hcj⟩ : ∃ x, L[j]? = some x := ⟨_, List.getElem?_eq_getElem (by rw [← hS.out.g.len]; omega)⟩
              have hd0 := Lib.hid (show (L[i]? = some ci ∧ L[j]? = some cj) ∧ doneV L ci cj 0 from ⟨⟨hci, hcj⟩, fun u hu => by omega⟩)
              have hcci := Lib.hid (hS.out.c.clauses hIs.out (List.mem_of_getElem? hci))
              have hccj := Lib.hid (hS.out.c.clauses hIs.out (List.mem_of_getElem? hcj))
              have hcli := Lib.hid (hS.out.c.sound _ (List.mem_of_getElem? hci))
              have hclj := Lib.hid (hS.out.c.sound _ (List.mem_of_getElem? hcj))
              clear hci hcj
              go_wp2_with fail
              go_loopw [6, 11] (fun vs s11 wr => ∃ (v : Nat) (ss : List StV) (L : List (List Int)), s11 = .int .i64 v ∧ v ≤ 6 ∧ j < ss.length ∧ Hid (GrSt w.heap.size w.heap.size Is w wr vs ss L j i) ∧ Hid ((L[i]? = some ci ∧ L[j]? = some cj) ∧ doneV L ci cj v)) (fun _ s11 _ => 6 - (intOf s11).toNat)
              case atStart => exact ⟨0, ss, L, rfl, by omega, hjs, hS, hd0⟩
              case round =>
                clear hS hd0 hlen hjs
                obtain ⟨k, ss, L, rfl, hk6, hjs, hS, hD⟩ := hrel
                have hlen := hS.out.c.len hIs.out
                rw [← hS.out.g.len] at hlen
                by_cases hlt6 : k < 6
                · obtain ⟨g, cp, hv6⟩ : ∃ g cp, u6 = .slice (some ⟨g, 0, none⟩) ss.length cp := by
                    rcases hS.out.g.own.2 with ⟨e, h0⟩ | ⟨g, cap, cur, e, _⟩
                    · omega
                    · exact ⟨g, cap, e⟩
                  subst hv6
                  obtain ⟨⟨ui, xi, yi, zi⟩, hsi⟩ : ∃ s, ss[i]? = some s := ⟨_, List.getElem?_eq_getElem (by omega)⟩
                  obtain ⟨⟨uj, xj, yj, zj⟩, hsj⟩ : ∃ s, ss[j]? = some s := ⟨_, List.getElem?_eq_getElem hjs⟩
                  have hii := hS.out.g.cl i _ ci hsi hD.out.1.1
                  have hij2 := hS.out.g.cl j _ cj hsj hD.out.1.2
                  dsimp only at hii hij2
                  obtain ⟨ai, pi, hui⟩ := hii.shape
                  obtain ⟨aj, pj, huj⟩ := hij2.shape
                  subst hui
                  subst huj
                  have hgi : wr.cell? ⟨g, i * 4, none⟩ = some (.slice ai ci.length pi) := by rw [hS.out.g.own.cellAt (i * 4) (by omega)]; exact (cellsSt_get ss i _ hsi).1
                  have hgj : wr.cell? ⟨g, j * 4, none⟩ = some (.slice aj cj.length pj) := by rw [hS.out.g.own.cellAt (j * 4) (by omega)]; exact (cellsSt_get ss j _ hsj).1
                  have hr1 := Lib.hid (fun W (hW : Below wr.heap.size wr W) => l04Resolve_any (.slice ai ci.length pi) (.slice aj cj.length pj) ci cj k W (hii.below hW (Nat.le_refl _)) (hij2.below hW (Nat.le_refl _)) hlt6)
                  have hr2 := Lib.hid (fun W (hW : Below wr.heap.size wr W) => l04Resolve_any (.slice aj cj.length pj) (.slice ai ci.length pi) cj ci k W (hij2.below hW (Nat.le_refl _)) (hii.below hW (Nat.le_refl _)) hlt6)
                  have hb0 := Below.refl wr.heap.size wr
                  have his : i < ss.length := by omega
                  have hk6i : (k : Int) < 6 := by omega
                  clear hii hij2 hsi hsj
                  generalize ci.length = ni at *
                  generalize cj.length = nj at *
                  cases hok : resOk ci cj (k : Int)
                  · have hok1 := Lib.hid hok
                    cases hok2 : resOk cj ci (k : Int)
                    · have hok2h := Lib.hid hok2
                      have hD2 := Lib.hid (show (L[i]? = some ci ∧ L[j]? = some cj) ∧ doneV L ci cj (k + 1) from ⟨hD.out.1, doneV_succ hD.out.2 (fun h9 => by rw [hok1.out] at h9; cases h9) (fun h9 => by rw [hok2h.out] at h9; cases h9)⟩)
                      rw [hok] at hr1
                      rw [hok2] at hr2
                      clear hok hok2
                      go_wp2_with fail
                      go_region_held3 (fun W => Below wr.heap.size wr W ∧ W.cell? ⟨g, i * 4, none⟩ = some (.slice ai ni pi) ∧ W.cell? ⟨g, j * 4, none⟩ = some (.slice aj nj pj)) (first | (refine ⟨?_, ?_, ?_⟩ <;> (first | assumption | (exact Below.drew (by assumption)))) | (obtain ⟨hs1, hs2, hs3⟩ := ‹Below _ _ _ ∧ _ ∧ _›; exact ⟨keep_step (by assumption) hs1, keep_cell (by assumption) hs2, keep_cell (by assumption) hs3⟩)) (first | (go_at_call 27; refine (hr1.out _ (And.left ‹Below wr.heap.size wr _ ∧ _ ∧ _›)).mono ?_; rintro e w' ⟨v2, rfl, hown, hb'⟩))
                      all_goals
                        obtain ⟨hs1, hgi2, hgj2⟩ := ‹Below wr.heap.size wr _ ∧ _ ∧ _›
                        clear hgi hgj hb0
                        go_wp2_with fail
                        go_region_held3 (fun W => Below wr.heap.size wr W ∧ W.cell? ⟨g, i * 4, none⟩ = some (.slice ai ni pi) ∧ W.cell? ⟨g, j * 4, none⟩ = some (.slice aj nj pj)) (first | (refine ⟨?_, ?_, ?_⟩ <;> (first | assumption | (exact Below.drew (by assumption)))) | (obtain ⟨hs1, hs2, hs3⟩ := ‹Below _ _ _ ∧ _ ∧ _›; exact ⟨keep_step (by assumption) hs1, keep_cell (by assumption) hs2, keep_cell (by assumption) hs3⟩)) (first | (go_at_call 27; refine (hr2.out _ (And.left ‹Below wr.heap.size wr _ ∧ _ ∧ _›)).mono ?_; rintro e w' ⟨v3, rfl, hownb, hb'⟩))
                        all_goals
                          obtain ⟨hs4, _⟩ := ‹Below wr.heap.size wr _ ∧ _ ∧ _›
                          have hmono := Lib.hid (hS.out.below hs4)
                          clear hgi2 hgj2 hs1 hs4
                          go_wp2_with fail
                          go_roundw
                          case rel => exact ⟨k + 1, ss, L, by go_num, by omega, hjs, hmono, hD2⟩
                          case measure => simp [intOf]; omega
                    · rw [hok] at hr1
                      rw [hok2] at hr2
                      clear hok
                      go_wp2_with fail
                      go_region_held3 (fun W => Below wr.heap.size wr W ∧ W.cell? ⟨g, i * 4, none⟩ = some (.slice ai ni pi) ∧ W.cell? ⟨g, j * 4, none⟩ = some (.slice aj nj pj)) (first | (refine ⟨?_, ?_, ?_⟩ <;> (first | assumption | (exact Below.drew (by assumption)))) | (obtain ⟨hs1, hs2, hs3⟩ := ‹Below _ _ _ ∧ _ ∧ _›; exact ⟨keep_step (by assumption) hs1, keep_cell (by assumption) hs2, keep_cell (by assumption) hs3⟩)) (first | (go_at_call 27; refine (hr1.out _ (And.left ‹Below wr.heap.size wr _ ∧ _ ∧ _›)).mono ?_; rintro e w' ⟨v2, rfl, hown, hb'⟩))
                      all_goals
                        obtain ⟨hs0b, hgi2, hgj2⟩ := ‹Below wr.heap.size wr _ ∧ _ ∧ _›
                        have hs0 := hs0b.size
                        clear hgi hgj hb0
                        go_wp2_with fail
                        go_region_held3 (fun W => Below wr.heap.size wr W ∧ W.cell? ⟨g, i * 4, none⟩ = some (.slice ai ni pi) ∧ W.cell? ⟨g, j * 4, none⟩ = some (.slice aj nj pj)) (first | (refine ⟨?_, ?_, ?_⟩ <;> (first | assumption | (exact Below.drew (by assumption)))) | (obtain ⟨hs1, hs2, hs3⟩ := ‹Below _ _ _ ∧ _ ∧ _›; exact ⟨keep_step (by assumption) hs1, keep_cell (by assumption) hs2, keep_cell (by assumption) hs3⟩)) (first | (go_at_call 27; refine (hr2.out _ (And.left ‹Below wr.heap.size wr _ ∧ _ ∧ _›)).mono ?_; rintro e w' ⟨v3, rfl, hownb, hb'⟩))
                        all_goals
                          obtain ⟨hs1, _⟩ := ‹Below wr.heap.size wr _ ∧ _ ∧ _›
                          have hok := hok2
                          clear hok2 hgi2 hgj2 hs0b
                          have hrc := resOk_clause hok
                          have hq := code3_lt hrc
                          have hown2 := hownb.out (by first | trivial | rfl)
                          obtain ⟨a2, p2, hv2⟩ := (ints_of_own hown2).shape
                          subst hv2
                          have hcode := Lib.hid (fun W (hW : Below w'.heap.size w' W) => l04Code3_any _ _ W ((ints_of_own hown2).below hW (Nat.le_refl _)) hrc)
                          have hcz := (hS.out.below hs1).g.kn.cellAt (code3 (resL cj ci (k : Int)) 6) (by omega)
                          rw [List.getElem?_map, knownL_get _ hq, Option.map_some, knownB_clause (fun c hc => hS.out.c.clauses hIs.out hc) hrc] at hcz
                          have hfz := (hS.out.below hs1).g.kn.frozenAt (code3 (resL cj ci (k : Int)) 6)
                          have hadd := Lib.hid (fun hnot w5 w7 vs7 h1 h2 h3 h4 => hS.out.add (W := w') (r := resL cj ci (k : Int)) (x := (j : Int)) (y := (i : Int)) (z := (k : Int)) (w5 := w5) (w7 := w7) (vs7 := vs7) hs1 hown2 hs0 hq (Nat.le_refl _) hnot (.res hclj.out hcli.out (resOk_mem hlt6 hok)) (by rw [← hS.out.g.len]; exact hjs) h1 h2 h3 h4)
                          have hmono := Lib.hid (hS.out.below hs1)
                          have hokh := Lib.hid hok
                          have hdv := Lib.hid (fun (M : List (List Int)) (hm : ∀ x ∈ L, x ∈ M) (hr : resL cj ci (k : Int) ∈ M) => show doneV M ci cj (k + 1) from doneV_succ (doneV_mono hD.out.2 hm) (fun h9 => by rw [hok1.out] at h9; cases h9) (fun _ => hr))
                          clear hok hown2
                          generalize hRL : resL cj ci (k : Int) = RL at *
                          have hRL := Lib.hid hRL
                          generalize hqq : code3 RL 6 = q at *
                          have hqq := Lib.hid hqq
                          have hq2 : (q : Int) < 729 := by omega
                          cases hin : decide (RL ∈ L)
                          · rw [hin] at hcz
                            have hadd2 := Lib.hid (hadd.out (by simpa using hin))
                            have hD2 := Lib.hid (show ((L ++ [RL])[i]? = some ci ∧ (L ++ [RL])[j]? = some cj) ∧ doneV (L ++ [RL]) ci cj (k + 1) from ⟨⟨by rw [List.getElem?_append_left (by rw [← hS.out.g.len]; exact his)]; exact hD.out.1.1, by rw [List.getElem?_append_left (by rw [← hS.out.g.len]; exact hjs)]; exact hD.out.1.2⟩, hdv.out _ (fun x hx => List.mem_append_left _ hx) (by simp)⟩)
                            have hkm := Lib.hid (show (w'.setCell ⟨w.heap.size, q, none⟩ (.bool true)).ownsRow w.heap.size 34 4 (.slice (some ⟨g, 0, none⟩) ss.length cp) ss.length (cellsSt ss) from hmono.out.g.own.kept (grown_setI w' w.heap.size q _) (.inr hmono.out.g.kv))
                            have hksm : w.heap.size ≤ (w'.setCell ⟨w.heap.size, q, none⟩ (.bool true)).heap.size := by have := hmono.out.g.ks; simp; omega
                            have hcode1 := Lib.hid (hcode.out w' (Below.refl _ _))
                            generalize hRn : RL.length = rn at *
                            have hRn := Lib.hid hRn
                            clear hin hadd hdv hD hr1 hr2 hs1 hcode hmono
                            go_upto_region 25 with (go_at_call 26; refine hcode1.out.mono ?_; rintro e w9 ⟨rfl, rfl⟩)
                            generalize hWm : w'.setCell ⟨w.heap.size, q, none⟩ (.bool true) = wm at *
                            clear hWm hcz hfz hcode1
                            have hbA := Lib.hid ((Below.refl wm.heap.size wm).alloc (Nat.le_refl _) (.cells #[.slice a2 rn p2, .int .i64 (j : Int), .int .i64 (i : Int), .int .i64 (k : Int)] 34))
                            have hownA := Lib.hid (own_below hkm.out hbA.out (Nat.le_refl _))
                            have hnew := Lib.hid (cell_four_new wm (.slice a2 rn p2) (.int .i64 (j : Int)) (.int .i64 (i : Int)) (.int .i64 (k : Int)) 34)
                            have hksA : w.heap.size ≤ (wm.alloc (.cells #[.slice a2 rn p2, .int .i64 (j : Int), .int .i64 (i : Int), .int .i64 (k : Int)] 34)).heap.size := by simp; omega
                            have hmx1 : ss.length + 1 ≤ maxLen := by unfold maxLen; omega
                            have hmx2 : (ss.length + 1) * 48 ≤ 140737488355328 := by omega
                            have hl4 : [Value.slice a2 rn p2, .int .i64 (j : Int), .int .i64 (i : Int), .int .i64 (k : Int)].length = 1 * 4 := rfl
                            have hl9 := Lib.hid (show (ss ++ [((Value.slice a2 rn p2, (j : Int), (i : Int), (k : Int)) : StV)]).length = ss.length + 1 by simp)
                            go_wp2_with (at_builtin; refine wpList_append_own_at _ rfl _ _ 31 rfl w.heap.size 34 j0 (.agg #[.slice none 0 0, .int .i64 0, .int .i64 0, .int .i64 0]) 4 48 Try.underlying31 hj9 hy0 hy1 hy2 rfl (by decide) (.slice (some ⟨g, 0, none⟩) ss.length cp) ss.length (cellsSt ss) rfl hownA.out ⟨wm.heap.size, 0, none⟩ 1 1 [.slice a2 rn p2, .int .i64 (j : Int), .int .i64 (i : Int), .int .i64 (k : Int)] rfl hl4 hnew.out (by simp [Value.oneCell']) hmx1 hmx2 hksA ?_; intro v7 w7 hown7 hgrow7 _ hblk7)
                            have hfin := Lib.hid (hadd2.out _ w7 v7 hbA.out hown7 hgrow7 hblk7)
                            clear hown7 hgrow7 hblk7
                            go_roundw
                            case rel => exact ⟨k + 1, ss ++ [((Value.slice a2 rn p2, (j : Int), (i : Int), (k : Int)) : StV)], _, by go_num, by omega, by rw [hl9.out]; omega, hfin, hD2⟩
                            case measure => simp [intOf]; omega
                          · rw [hin] at hcz
                            have hD2 := Lib.hid (show (L[i]? = some ci ∧ L[j]? = some cj) ∧ doneV L ci cj (k + 1) from ⟨hD.out.1, hdv.out L (fun x hx => hx) (by simpa using hin)⟩)
                            have hcode1 := Lib.hid (hcode.out w' (Below.refl _ _))
                            generalize hRn : RL.length = rn at *
                            have hRn := Lib.hid hRn
                            clear hin hadd hdv hD hr1 hr2 hs1 hcode
                            go_wp2_with (go_at_call 26; refine hcode1.out.mono ?_; rintro e w9 ⟨rfl, rfl⟩)
                            go_roundw
                            case rel => exact ⟨k + 1, ss, L, by go_num, by omega, hjs, hmono, hD2⟩
                            case measure => simp [intOf]; omega
                  · rw [hok] at hr1
                    go_wp2_with fail
                    go_region_held3 (fun W => Below wr.heap.size wr W ∧ W.cell? ⟨g, i * 4, none⟩ = some (.slice ai ni pi) ∧ W.cell? ⟨g, j * 4, none⟩ = some (.slice aj nj pj)) (first | (refine ⟨?_, ?_, ?_⟩ <;> (first | assumption | (exact Below.drew (by assumption)))) | (obtain ⟨hs1, hs2, hs3⟩ := ‹Below _ _ _ ∧ _ ∧ _›; exact ⟨keep_step (by assumption) hs1, keep_cell (by assumption) hs2, keep_cell (by assumption) hs3⟩)) (first | (go_at_call 27; refine (hr1.out _ (And.left ‹Below wr.heap.size wr _ ∧ _ ∧ _›)).mono ?_; rintro e w' ⟨v2, rfl, hown, hb'⟩))
                    all_goals
                      obtain ⟨hs1, _⟩ := ‹Below wr.heap.size wr _ ∧ _ ∧ _›
                      clear hb0
                      have hrc := resOk_clause hok
                      have hq := code3_lt hrc
                      have hown2 := hown.out (by first | trivial | rfl)
                      obtain ⟨a2, p2, hv2⟩ := (ints_of_own hown2).shape
                      subst hv2
                      have hcode := Lib.hid (fun W (hW : Below w'.heap.size w' W) => l04Code3_any _ _ W ((ints_of_own hown2).below hW (Nat.le_refl _)) hrc)
                      have hcz := (hS.out.below hs1).g.kn.cellAt (code3 (resL ci cj (k : Int)) 6) (by omega)
                      rw [List.getElem?_map, knownL_get _ hq, Option.map_some, knownB_clause (fun c hc => hS.out.c.clauses hIs.out hc) hrc] at hcz
                      have hfz := (hS.out.below hs1).g.kn.frozenAt (code3 (resL ci cj (k : Int)) 6)
                      have hadd := Lib.hid (fun hnot w5 w7 vs7 h1 h2 h3 h4 => hS.out.add (W := w') (r := resL ci cj (k : Int)) (x := (i : Int)) (y := (j : Int)) (z := (k : Int)) (w5 := w5) (w7 := w7) (vs7 := vs7) hs1 hown2 (Nat.le_refl _) hq (Nat.le_refl _) hnot (.res hcli.out hclj.out (resOk_mem hlt6 hok)) (by rw [← hS.out.g.len]; exact hjs) h1 h2 h3 h4)
                      have hmono := Lib.hid (hS.out.below hs1)
                      have hokh := Lib.hid hok
                      have hdv := Lib.hid (fun (M : List (List Int)) (hm : ∀ x ∈ L, x ∈ M) (hr : resL ci cj (k : Int) ∈ M) => show doneV M ci cj (k + 1) from doneV_succ (doneV_mono hD.out.2 hm) (fun _ => hr) (fun h9 => by rw [resOk_one hcci.out hokh.out] at h9; cases h9))
                      clear hok hown2
                      generalize hRL : resL ci cj (k : Int) = RL at *
                      have hRL := Lib.hid hRL
                      generalize hqq : code3 RL 6 = q at *
                      have hqq := Lib.hid hqq
                      have hq2 : (q : Int) < 729 := by omega
                      cases hin : decide (RL ∈ L)
                      · rw [hin] at hcz
                        have hadd2 := Lib.hid (hadd.out (by simpa using hin))
                        have hD2 := Lib.hid (show ((L ++ [RL])[i]? = some ci ∧ (L ++ [RL])[j]? = some cj) ∧ doneV (L ++ [RL]) ci cj (k + 1) from ⟨⟨by rw [List.getElem?_append_left (by rw [← hS.out.g.len]; exact his)]; exact hD.out.1.1, by rw [List.getElem?_append_left (by rw [← hS.out.g.len]; exact hjs)]; exact hD.out.1.2⟩, hdv.out _ (fun x hx => List.mem_append_left _ hx) (by simp)⟩)
                        have hkm := Lib.hid (show (w'.setCell ⟨w.heap.size, q, none⟩ (.bool true)).ownsRow w.heap.size 34 4 (.slice (some ⟨g, 0, none⟩) ss.length cp) ss.length (cellsSt ss) from hmono.out.g.own.kept (grown_setI w' w.heap.size q _) (.inr hmono.out.g.kv))
                        have hksm : w.heap.size ≤ (w'.setCell ⟨w.heap.size, q, none⟩ (.bool true)).heap.size := by have := hmono.out.g.ks; simp; omega
                        have hcode1 := Lib.hid (hcode.out w' (Below.refl _ _))
                        generalize hRn : RL.length = rn at *
                        have hRn := Lib.hid hRn
                        clear hin hadd hdv hD hr1 hr2 hgi hgj hs1 hcode hmono
                        go_upto_region 25 with (go_at_call 26; refine hcode1.out.mono ?_; rintro e w9 ⟨rfl, rfl⟩)
                        generalize hWm : w'.setCell ⟨w.heap.size, q, none⟩ (.bool true) = wm at *
                        clear hWm hcz hfz hcode1
                        have hbA := Lib.hid ((Below.refl wm.heap.size wm).alloc (Nat.le_refl _) (.cells #[.slice a2 rn p2, .int .i64 (i : Int), .int .i64 (j : Int), .int .i64 (k : Int)] 34))
                        have hownA := Lib.hid (own_below hkm.out hbA.out (Nat.le_refl _))
                        have hnew := Lib.hid (cell_four_new wm (.slice a2 rn p2) (.int .i64 (i : Int)) (.int .i64 (j : Int)) (.int .i64 (k : Int)) 34)
                        have hksA : w.heap.size ≤ (wm.alloc (.cells #[.slice a2 rn p2, .int .i64 (i : Int), .int .i64 (j : Int), .int .i64 (k : Int)] 34)).heap.size := by simp; omega
                        have hmx1 : ss.length + 1 ≤ maxLen := by unfold maxLen; omega
                        have hmx2 : (ss.length + 1) * 48 ≤ 140737488355328 := by omega
                        have hl4 : [Value.slice a2 rn p2, .int .i64 (i : Int), .int .i64 (j : Int), .int .i64 (k : Int)].length = 1 * 4 := rfl
                        have hl9 := Lib.hid (show (ss ++ [((Value.slice a2 rn p2, (i : Int), (j : Int), (k : Int)) : StV)]).length = ss.length + 1 by simp)
                        go_wp2_with (at_builtin; refine wpList_append_own_at _ rfl _ _ 31 rfl w.heap.size 34 j0 (.agg #[.slice none 0 0, .int .i64 0, .int .i64 0, .int .i64 0]) 4 48 Try.underlying31 hj9 hy0 hy1 hy2 rfl (by decide) (.slice (some ⟨g, 0, none⟩) ss.length cp) ss.length (cellsSt ss) rfl hownA.out ⟨wm.heap.size, 0, none⟩ 1 1 [.slice a2 rn p2, .int .i64 (i : Int), .int .i64 (j : Int), .int .i64 (k : Int)] rfl hl4 hnew.out (by simp [Value.oneCell']) hmx1 hmx2 hksA ?_; intro v7 w7 hown7 hgrow7 _ hblk7)
                        have hfin := Lib.hid (hadd2.out _ w7 v7 hbA.out hown7 hgrow7 hblk7)
                        clear hown7 hgrow7 hblk7
                        go_roundw
                        case rel => exact ⟨k + 1, ss ++ [((Value.slice a2 rn p2, (i : Int), (j : Int), (k : Int)) : StV)], _, by go_num, by omega, by rw [hl9.out]; omega, hfin, hD2⟩
                        case measure => simp [intOf]; omega
                      · rw [hin] at hcz
                        have hD2 := Lib.hid (show (L[i]? = some ci ∧ L[j]? = some cj) ∧ doneV L ci cj (k + 1) from ⟨hD.out.1, hdv.out L (fun x hx => hx) (by simpa using hin)⟩)
                        have hcode1 := Lib.hid (hcode.out w' (Below.refl _ _))
                        generalize hRn : RL.length = rn at *
                        have hRn := Lib.hid hRn
                        clear hin hadd hdv hD hr1 hr2 hgi hgj hs1 hcode
                        go_wp2_with (go_at_call 26; refine hcode1.out.mono ?_; rintro e w9 ⟨rfl, rfl⟩)
                        go_roundw
                        case rel => exact ⟨k + 1, ss, L, by go_num, by omega, hjs, hmono, hD2⟩
                        case measure => simp [intOf]; omega
                · obtain rfl : k = 6 := by omega
                  have hfin := Lib.hid (show GrSt w.heap.size w.heap.size Is w wr _ ss L j (i + 1) from ⟨hS.out.g, hS.out.c.step hD.out.1.1 hD.out.1.2 (doneV_all hD.out.2).1 (doneV_all hD.out.2).2, hS.out.b⟩)
                  go_wp2_with fail
                  go_roundw
                  case rel => exact ⟨i + 1, ss, L, by go_num, by omega, hjs, hfin⟩
                  case measure => simp [intOf]; omega
            · obtain rfl : i = j := by omega
              have hfin := Lib.hid (show GrSt w.heap.size w.heap.size Is w wr _ ss L (i + 1) 0 from ⟨hS.out.g, hS.out.c.next, hS.out.b⟩)
              clear hS
              go_wp2_with fail
              go_roundw
              case rel => exact ⟨i + 1, ss, L, by go_num, by omega, hfin⟩
              case measure => simp [intOf]; omega
        · have hfin := Lib.hid (show (∀ x, x ∈ L ↔ Clo Is x) ∧ L.length ≤ 4096 ∧ ss.length = L.length ∧ wr.ownsRow w.heap.size 34 4 (.slice a ss.length c) ss.length (cellsSt ss) ∧ ∀ (i : Nat) (s : StV) (c : List Int), ss[i]? = some s → L[i]? = some c → Ints wr s.1 c ∧ ∀ k, s.1.ownBlock = some k → w.heap.size ≤ k ∧ k < wr.heap.size from
            ⟨hS.out.c.done hIs.out (by rw [← hS.out.g.len]; omega), hS.out.c.len hIs.out, hS.out.g.len, hS.out.g.own, fun i s c h1 h2 => ⟨hS.out.g.cl i s c h1 h2, fun k hk => ⟨(hS.out.g.ap s (List.mem_of_getElem? h1) k hk).1, (hS.out.g.ap s (List.mem_of_getElem? h1) k hk).2.1⟩⟩⟩)
          have hbb := Lib.hid hS.out.b
          clear hS
          go_wp2_with fail
          go_ret
          exact ⟨_, ss, L, rfl, hfin, hbb.out⟩
end Go.Proofs.Ytobbhflajkhcdaa
