/- impl.PrimeImplicates: the prime terms of the other rows, their literals turned, sorted anew. -/
import Derived.Test.YtmhkcicjbgifnaaGreatMPrimeLawM
import Derived.Test.YtmhkcicjbgifnaaGreatMFlip
namespace Go.Proofs.YtmhkcicjbgifnaaGreat
open Go.RowKit Go.Deep
set_option linter.unusedVariables false
set_option linter.unusedSimpArgs false

theorem flip_at {ss : List SlI} {k : Nat} {s : SlI} (h : ss[k]? = some s) : (ss.take k).map flipS ++ ss.drop k = (ss.take k).map flipS ++ s :: ss.drop (k + 1) := by
  obtain ⟨hk, hs⟩ := List.getElem?_eq_some_iff.1 h
  rw [← hs, List.getElem_cons_drop]
theorem flip_next {ss : List SlI} {k : Nat} {s : SlI} (h : ss[k]? = some s) : (ss.take k).map flipS ++ flipS s :: ss.drop (k + 1) = (ss.take (k + 1)).map flipS ++ ss.drop (k + 1) := by
  rw [List.take_add_one, h]
  simp
theorem flip_all (ss : List SlI) : (ss.take ss.length).map flipS ++ ss.drop ss.length = ss.map flipS := by simp
theorem flip_contents (ss : List SlI) : (ss.map flipS).map Prod.snd = (ss.map Prod.snd).map (List.map opp) := by
  rw [List.map_map, List.map_map]; rfl
/-- Where the inner loop stands. -/
structure FlipP (K : Nat) (w wr : World) (v : Value) (ss : List SlI) (k : Nat) (s : SlI) (j : Nat) : Prop where
  g : GrowI K wr v ((ss.take k).map flipS ++ (s.1, partO s.2 j) :: ss.drop (k + 1))
  b : Below K w wr
theorem FlipP.at' {K : Nat} {w wr : World} {v : Value} {ss : List SlI} {k : Nat} {s : SlI} {j : Nat} {x : Int} (h : FlipP K w wr v ss k s j) (hx : s.2[j]? = some x) : ∃ g cap, s.1 = (some ⟨g, 0, none⟩, s.2.length, cap) ∧ wr.cell? ⟨g, j, none⟩ = some (.int .i64 x) ∧ wr.frozen? ⟨g, j, none⟩ = false := by
  have hj := (List.getElem?_eq_some_iff.1 hx).1
  have h1 := h.g.row (s.1, partO s.2 j) (by simp)
  simp only [partO_len] at h1
  rcases h1.2 with ⟨_, h2⟩ | ⟨g, cap, cur, h2, _⟩
  · omega
  · have e : s.1 = (some ⟨g, 0, none⟩, s.2.length, cap) := by
      obtain ⟨⟨a, n, c⟩, T⟩ := s
      unfold slVI at h2
      injection h2 with e1 e2 e3
      simp only at e1 e2 e3
      rw [e1, e2, e3]
    refine ⟨g, cap, e, ?_⟩
    rw [h2] at h1
    obtain ⟨⟨z, hz, hcz⟩, hf⟩ := own_cell h1 hj
    rw [partO_get hx] at hz
    obtain rfl := Option.some.inj hz
    exact ⟨hcz, hf⟩
theorem FlipP.step {K : Nat} {w wr : World} {v : Value} {ss : List SlI} {k : Nat} {s : SlI} {j g cap : Nat} {x : Int} (h : FlipP K w wr v ss k s j) (hx : s.2[j]? = some x) (hs : s.1 = (some ⟨g, 0, none⟩, s.2.length, cap)) : FlipP K w (wr.setCell ⟨g, j, none⟩ (.int .i64 (opp x))) v ss k s (j + 1) := by
  have hj := (List.getElem?_eq_some_iff.1 hx).1
  have h1 := h.g.store (g := g) (cap := cap) (by rw [partO_len]; exact hs) (by rw [partO_len]; exact hj) (opp x)
  rw [partO_set hx] at h1
  refine ⟨h1, h.b.setCell (p := ⟨g, j, none⟩) ?_ _⟩
  have h2 := h.g.row (s.1, partO s.2 j) (by simp)
  exact (h2.lt g (by unfold slVI; rw [hs]; rfl)).1

set_option maxHeartbeats 4000000 in
set_option maxRecDepth 100000 in
theorem implPrimeImplicates_any (v : Value) (ns : List Nd) (w : World) (h : Nodes w v ns) (R : List (List Int)) (hR : isPrimeR false ns R) :
    Calls Tryz.prog 8 #[v] w fun e w' => ∃ v', e = .returned (.tuple #[v', .int .i64 (codeP [ns])]) ∧ OwnII w.heap.size w'.heap.size w' v' R ∧ Below w.heap.size w w' := by
  obtain ⟨a, c, rfl⟩ := h.shape
  have hv := Lib.hid h
  have hcode := Lib.hid (fun t => plainCode_one w a _ c ns t h)
  clear h
  generalize ns.length = n at *
  by_cases h0 : codeP [ns] = 0
  · obtain ⟨hf, hp⟩ := codeP_one h0
    obtain ⟨h1, h2, h3, h4⟩ := plain_tree hf hp
    have hmod := Lib.hid (show ∀ w1 (hb : Below w.heap.size w w1), Calls Tryz.prog 22 #[.slice a n c] w1 fun e w' => e = .returned (.int .u64 (rowsOf (valT (treeOf ns)) 64 : Nat)) ∧ w1 = w' from fun w1 hb => modelsOf_any (treeOf ns) _ w1 h1 h3 (by rw [h2]; exact hv.out.below hb (Nat.le_refl _)) (by rw [h2]; omega))
    have hR := Lib.hid (hR.1 h0)
    have hc := Lib.hid h0
    clear h0 hf hp h1 h2 h3 h4
    generalize valT (treeOf ns) = p at *
    obtain ⟨R2, hR2⟩ := ans_ex (impB fun i => !p i)
    have hpr := Lib.hid (fun w => primes_any (fun i => !p i) R2 hR2 w)
    have hnot := Lib.hid (not_rows p)
    have hfl := Lib.hid (show ∀ L : List (List Int), L.Pairwise ltI → (∀ x, x ∈ L ↔ x ∈ R2.map (List.map opp)) → L = R from fun L hs hm => isAns_one (G := goodB false p) ⟨hs, fun x => by rw [hm, opps_ans hR2, goodB_cls]⟩ hR.out)
    have hR2n := Lib.hid (show (R2.map (List.map opp)).Nodup from by
      unfold List.Nodup
      rw [List.pairwise_map]
      exact hR2.1.imp fun {x y} hxy e => by
        rw [opp_inj e] at hxy
        exact lo_lists.irr _ hxy)
    have hR2c := Lib.hid (show ∀ x ∈ R2, clauseB x = true from fun x hx => ((hR2.2 x).1 hx).1)
    have hR2l := isAns_len hR2
    generalize ((rowsOf p 64 : Nat) : Int) = S at *
    generalize ((rowsOf (fun i => !p i) 64 : Nat) : Int) = S2 at *
    clear hR2
    go_enter Tryz.func8, Tryz.ntmps8
    go_wp2_with fail
    refine (hcode.out _).mono ?_
    rintro e w1 ⟨rfl, b1⟩
    rw [hc.out]
    go_wp2_with fail
    refine (hmod.out _ b1).mono ?_
    rintro e w2 ⟨rfl, rfl⟩
    go_wp2_with fail
    rw [hnot.out]
    refine (hpr.out _).mono ?_
    rintro e w3 ⟨v3, ss, rfl, hg3, hs3, b3⟩
    have hs1 := b1.size
    have hg0 := Lib.hid (show GrowI w1.heap.size w3 v3 ((ss.take 0).map flipS ++ ss.drop 0) from by simpa using hg3)
    have hb0 := Lib.hid b3
    have hssl : ss.length ≤ 4096 := by
      have := congrArg List.length hs3.out
      rw [List.length_map] at this
      omega
    have hsc := Lib.hid (show ∀ s ∈ ss, clauseB s.2 = true from fun s hs => hR2c.out s.2 (by rw [← hs3.out]; exact List.mem_map_of_mem hs))
    obtain ⟨_, va, vc, _, _, rfl, _, _, _⟩ := hg3.slices.opened
    have b1h := Lib.hid b1
    clear hg3 b3 b1
    generalize hnn : ss.length = m at *
    replace hnn := Lib.hid hnn
    go_wp2_with fail
    go_loopw [21] (fun i wr => ∃ k : Nat, k ≤ m ∧ i = .int .i64 k ∧ Hid (GrowI w1.heap.size wr (.slice va m vc) ((ss.take k).map flipS ++ ss.drop k)) ∧ Hid (Below w1.heap.size w1 wr)) (fun i _ => m - (intOf i).toNat)
    case atStart => exact ⟨0, Nat.zero_le _, rfl, hg0, hb0⟩
    case round =>
      clear hg0 hb0
      obtain ⟨k, hk, rfl, hgk, hbk⟩ := hrel
      by_cases hkm : k < m
      · obtain ⟨s, hs⟩ : ∃ s, ss[k]? = some s := ⟨_, List.getElem?_eq_getElem (by rw [hnn.out]; exact hkm)⟩
        have hgk2 := hgk.out
        rw [flip_at hs] at hgk2
        have hlen2 : ((ss.take k).map flipS ++ s :: ss.drop (k + 1)).length = m := by
          have := hnn.out
          simp
          omega
        obtain ⟨g, cap, hve, hcap, _, hcell⟩ := hgk2.pos (by rw [hlen2]; omega)
        rw [hlen2] at hve hcap
        injection hve with e1 e2 e3
        subst e1
        subst e3
        have hck := hcell k s (by
          rw [List.getElem?_append_right (by simp; omega)]
          simp
          rw [show k - min k ss.length = 0 by have := hnn.out; omega]
          rfl)
        obtain ⟨pa, pc, hps⟩ := (ints_of_own (hgk2.row s (by simp))).shape
        rw [hps] at hck
        have hpsh := Lib.hid hps
        have hF0 := Lib.hid (show FlipP w1.heap.size w1 wr (.slice (some ⟨g, 0, none⟩) m vc) ss k s 0 from ⟨by rw [partO_zero]; exact hgk2, hbk.out⟩)
        have hscl := Lib.hid (hsc.out s (List.mem_of_getElem? hs))
        have hs := Lib.hid hs
        have htl := clause_len hscl.out
        have hkl : (k : Int) < (m : Int) := by omega
        clear hgk2 hcell hps e2 hgk hbk
        generalize htn : s.2.length = tn at *
        replace htn := Lib.hid htn
        go_wp2_with fail
        go_loopw [27] (fun i wq => ∃ j : Nat, j ≤ tn ∧ i = .int .i64 j ∧ Hid (FlipP w1.heap.size w1 wq (.slice (some ⟨g, 0, none⟩) m vc) ss k s j)) (fun i _ => tn - (intOf i).toNat)
        case atStart => exact ⟨0, Nat.zero_le _, rfl, hF0⟩
        case round =>
          clear hF0
          obtain ⟨j, hj, rfl, hF⟩ := hrel
          by_cases hjn : j < tn
          · obtain ⟨x, hx⟩ : ∃ x, s.2[j]? = some x := ⟨_, List.getElem?_eq_getElem (by rw [htn.out]; exact hjn)⟩
            obtain ⟨g2, cap2, hse, hcx, hfx⟩ := hF.out.at' hx
            have hpe : pa = some ⟨g2, 0, none⟩ := by
              have h1 := hpsh.out
              unfold slVI at h1
              rw [hse] at h1
              injection h1 with e1 _ _
              exact e1.symm
            subst hpe
            obtain ⟨x0, x1⟩ := clause_in hscl.out (List.mem_of_getElem? hx)
            have hxor := xor_one x0 x1
            have hF2 := Lib.hid (hF.out.step hx hse)
            have hjl : (j : Int) < (tn : Int) := by omega
            clear hse hx
            generalize opp x = ox at *
            go_wp2_with fail
            go_roundw
            case rel => exact ⟨j + 1, by omega, by go_num, hF2⟩
            case measure => simp [intOf]; omega
          · obtain rfl : j = tn := by omega
            have hgN := Lib.hid (show GrowI w1.heap.size wr (.slice (some ⟨g, 0, none⟩) m vc) ((ss.take (k + 1)).map flipS ++ ss.drop (k + 1)) from by
              have h1 := hF.out.g
              rw [← htn.out, partO_full] at h1
              rw [← flip_next hs.out]
              exact h1)
            have hbN := Lib.hid hF.out.b
            go_wp2_with fail
            go_roundw
            case rel => exact ⟨k + 1, by omega, by go_num, hgN, hbN⟩
            case measure => simp [intOf]; omega
      · obtain rfl : k = m := by omega
        have hgE := hgk.out
        rw [← hnn.out, flip_all, hnn.out] at hgE
        have hnd : ((ss.map flipS).map Prod.snd).Nodup := by rw [flip_contents, hs3.out]; exact hR2n.out
        have hso := Lib.hid (sortGrow_any w1.heap.size _ (ss.map flipS) wr hgE hnd (by rw [List.length_map]; have := hnn.out; omega))
        clear hgE hnd
        go_wp2_with fail
        refine hso.out.mono ?_
        rintro e w9 ⟨rfl, ss9, hg9, hs9, hl9, hb9⟩
        have hg9 := Lib.hid hg9
        have hb9 := Lib.hid (hb9)
        clear hl9
        go_wp2_with fail
        go_ret2
        exact ⟨_, by rw [hc.out]; rfl, by rw [← hfl.out (ss9.map Prod.snd) hs9.out.1 fun x => (by rw [hs9.out.2, flip_contents, hs3.out])]; exact hg9.out.ownII.mono hs1, keep_step (hbk.out.trans hb9.out) b1h.out⟩
  · have hr := Lib.hid (hR.2 h0)
    have hne := codeP_ne h0
    clear h0
    go_enter Tryz.func8, Tryz.ntmps8
    go_wp2_with fail
    refine (hcode.out _).mono ?_
    rintro e w1 ⟨rfl, b1⟩
    go_wp2_with fail
    go_ret2
    exact ⟨_, rfl, by rw [hr.out]; exact OwnII.nil w1 _, b1⟩
end Go.Proofs.YtmhkcicjbgifnaaGreat
