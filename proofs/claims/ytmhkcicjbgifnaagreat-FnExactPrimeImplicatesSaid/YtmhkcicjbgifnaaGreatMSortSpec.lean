/- spec.l04Sorted at any list. -/
import Derived.Test.YtmhkcicjbgifnaaGreatMLessIM
import Derived.Test.YtmhkcicjbgifnaaGreatMKeyFnsM
import Derived.Deep.CutRange
import Derived.Deep.Cut
import Derived.Deep.DeepCutAuto

namespace Go.Proofs.YtmhkcicjbgifnaaGreat
open Go.RowKit
set_option linter.unusedVariables false
set_option linter.unusedSimpArgs false

/-- A list of lists that is not nil. -/
def FiA (lo : Nat) (w : World) (v : Value) (L : List (List Int)) : Prop := ∃ (b o c : Nat) (ss : List SlI), v = .slice (some ⟨b, o, none⟩) ss.length c ∧ ss.length ≤ c ∧ ss.length ≤ maxLen ∧ (lo ≤ b ∧ b < w.heap.size) ∧ (∀ (i : Nat) (s : SlI), ss[i]? = some s → w.cell? ⟨b, o + i, none⟩ = some (slVI s) ∧ Ints w (slVI s) s.2 ∧ ∀ k, (slVI s).ownBlock = some k → lo ≤ k ∧ k < w.heap.size) ∧ ss.map Prod.snd = L
theorem FiA.below {lo : Nat} {w w' : World} {v : Value} {L : List (List Int)} {K : Nat} (h : FiA lo w v L) (hb : Below K w w') (hk : w.heap.size ≤ K) : FiA lo w' v L := by
  obtain ⟨b, o, c, ss, hv, hc, hm, hbl, hcell, hl⟩ := h
  refine ⟨b, o, c, ss, hv, hc, hm, ⟨hbl.1, Nat.lt_of_lt_of_le hbl.2 hb.size⟩, fun i s hs => ?_, hl⟩
  obtain ⟨h1, h2, h3⟩ := hcell i s hs
  have hlt : b < w.heap.size := World.block_lt_of_cell? w _ h1
  exact ⟨(hb.cell (p := ⟨b, o + i, none⟩) (by show b < K; omega)).trans h1, h2.below hb hk, fun k hk2 => ⟨(h3 k hk2).1, Nat.lt_of_lt_of_le (h3 k hk2).2 hb.size⟩⟩
theorem FiA.fi {lo : Nat} {w : World} {v : Value} {L : List (List Int)} (h : FiA lo w v L) : Fi w v L := by
  obtain ⟨b, o, c, ss, rfl, hc, hm, _, hcell, rfl⟩ := h
  refine ⟨ss, ⟨by simp, hm, _, c, b, o, rfl, hc, fun _ => rfl, fun i u hu => ?_⟩, fun s hs => ?_, rfl⟩
  · rw [List.getElem?_map, Option.map_eq_some_iff] at hu
    obtain ⟨s, hs, rfl⟩ := hu
    exact (hcell i s hs).1
  · obtain ⟨i, hi⟩ := List.getElem?_of_mem hs
    exact (hcell i s hi).2.1
theorem fiA_of_own {lo : Nat} {w : World} {B : Nat} {e : TypeId} {v : Value} {n : Nat} {ss : List SlI} (h : w.ownsRow B e 1 v n (ss.map slVI)) (hr : ∀ s ∈ ss, Ints w (slVI s) s.2 ∧ ∀ k, (slVI s).ownBlock = some k → lo ≤ k ∧ k < w.heap.size) (h0 : 0 < n) (hlo : lo ≤ B) : FiA lo w v (ss.map Prod.snd) := by
  have hl : ss.length = n := by have := h.1; simpa using this
  rcases h.2 with ⟨_, h2⟩ | ⟨g, cap, cur, rfl, hB, hg, hc, hm, _⟩
  · omega
  · refine ⟨g, 0, cap, ss, by rw [hl], by omega, by omega, ⟨by omega, (h.lt g rfl).2⟩, fun i s hs => ⟨?_, hr s (List.mem_of_getElem? hs)⟩, rfl⟩
    have hi : i < n := by rw [← hl]; exact (List.getElem?_eq_some_iff.1 hs).1
    rw [Nat.zero_add, h.cellAt i (by omega), List.getElem?_map, hs]; rfl
theorem slI_oneCell (ss : List SlI) : ∀ u ∈ ss.map slVI, u.oneCell' = true := by
  intro u hu
  obtain ⟨x, _, rfl⟩ := List.mem_map.1 hu
  rfl
theorem allU_len2 {T : List (List Int)} (k : Nat) : (allU ltI (T.take k)).length ≤ k := by
  have key : ∀ (S l : List (List Int)), (S.foldl (insU ltI) l).length ≤ l.length + S.length := by
    have one : ∀ (l : List (List Int)) (t : List Int), (insU ltI l t).length ≤ l.length + 1 := by
      intro l
      induction l with
      | nil => intro t; simp [insU]
      | cons a l ih =>
        intro t
        unfold insU
        split
        · have := ih t; simp; omega
        · split <;> simp
    intro S
    induction S with
    | nil => intro l; simp
    | cons t S ih =>
      intro l
      have h1 := ih (insU ltI l t)
      have h2 := one l t
      simp only [List.foldl_cons, List.length_cons]
      omega
  have := key (T.take k) []
  have h2 : (T.take k).length ≤ k := by rw [List.length_take]; omega
  unfold allU
  simp at this
  omega
set_option maxHeartbeats 8000000 in
set_option maxRecDepth 100000 in
theorem l04Sorted_any (v : Value) (Is : List (List Int)) (w : World) (h : Fi w v Is) (hn : Is.length ≤ 1048576) (hl : ∀ r ∈ Is, r.length ≤ 1000) :
    Calls Tryz.prog 35 #[v] w fun e w' => ∃ v', e = .returned v' ∧ FiA w.heap.size w' v' (allU ltI Is) ∧ Below w.heap.size w w' := by
  obtain ⟨i0, hi, hz0, hz1, hz2⟩ := info_parts info_ints
  obtain ⟨a, c, b, o, rfl, hc, hm, ha, hcell⟩ := h.cells
  unfold maxLen at hm
  have hah := Lib.hid ha
  have hlh := Lib.hid hl
  clear h ha hl
  have hl0 := Lib.hid (show FiA w.heap.size (w.alloc (.cells #[] 48)) (.slice (some ⟨w.heap.size, 0, none⟩) 0 0) [] from ⟨w.heap.size, 0, 0, [], rfl, by simp, by simp, ⟨Nat.le_refl _, by simp⟩, fun i s hs => by simp at hs, rfl⟩)
  have hba := Lib.hid ((Below.refl w.heap.size w).alloc (Nat.le_refl _) (.cells #[] 48))
  have hU := Lib.hid (fun (k : Nat) (I : List Int) (hI : Is[k]? = some I) => allU_succ ltI Is k I hI)
  have hUl := Lib.hid (fun (k : Nat) => allU_len2 (T := Is) k)
  have hUa := Lib.hid (show allU ltI (Is.take Is.length) = allU ltI Is by rw [List.take_length])
  have hU0 := Lib.hid (show allU ltI (Is.take 0) = [] from rfl)
  go_enter Tryz.func35, Tryz.ntmps35
  go_wp2_with fail
  go_loopw [3, 4] (fun v i wr => ∃ k : Nat, k ≤ Is.length ∧ i = .int .i64 k ∧ Hid (FiA w.heap.size wr v (allU ltI (Is.take k))) ∧ Below w.heap.size w wr) (fun _ i _ => Is.length - (intOf i).toNat)
  case atStart => exact ⟨0, Nat.zero_le _, rfl, by rw [hU0.out]; exact hl0, hba.out⟩
  case round =>
    clear hl0 hba
    obtain ⟨k, hk, rfl, hf, hb⟩ := hrel
    by_cases hlt : k < Is.length
    · obtain rfl := hah.out (by omega)
      obtain ⟨vI, I, hI, hcI, hinI⟩ := hcell.out k hlt
      obtain ⟨Ia, Ic, rfl⟩ := hinI.shape
      have hlen := hUl.out k
      have hUk := Lib.hid (hU.out k I hI)
      have hIl := hlh.out I (List.mem_of_getElem? hI)
      obtain ⟨ob, oo, oc, ss, rfl, hoc, hom, _, hoc2, hos⟩ := hf.out
      have hins := Lib.hid (fun at' h1 h2 h3 => insU_at ltI (allU ltI (Is.take k)) I at' h1 h2 h3)
      rw [← hos] at hlen hUk hins
      rw [List.length_map] at hlen
      have hoc2 := Lib.hid hoc2
      unfold maxLen at hom
      obtain ⟨wo, hwo⟩ : ∃ wo, wo = wr := ⟨_, rfl⟩
      subst hwo
      have hown := Lib.hid (fun W (hb : Below w.heap.size w W) => l01Own_any _ I W (hinI.below hb (Nat.le_refl _)) (by omega))
      have hless := Lib.hid (fun (at' : Nat) (s : SlI) (hs : ss[at']? = some s) W (hW : Below wo.heap.size wo W) => l01Less_any (slVI s) (.slice Ia I.length Ic) s.2 I W ((hoc2.out at' s hs).2.1.below hW (Nat.le_refl _)) (hinI.below (keep_step hW hb) (Nat.le_refl _)))
      have hsame := Lib.hid (fun (at' : Nat) (s : SlI) (hs : ss[at']? = some s) W (hW : Below wo.heap.size wo W) => l01Same_any (slVI s) (.slice Ia I.length Ic) s.2 I W ((hoc2.out at' s hs).2.1.below hW (Nat.le_refl _)) (hinI.below (keep_step hW hb) (Nat.le_refl _)))
      have hcIr := Lib.hid (keep_cell hb hcI)
      have hbh := Lib.hid hb
      have hold := Lib.hid (show allU ltI (Is.take k) = ss.map Prod.snd from hos.symm)
      have hofi := Lib.hid (show FiA w.heap.size wo (.slice (some ⟨ob, oo, none⟩) ss.length oc) (allU ltI (Is.take k)) from hf.out)
      clear hI hcI hinI hf hos hb
      generalize hIL : I.length = il at *
      have hIL := Lib.hid hIL
      go_wp2_with fail
      go_loopw [5] (fun s5 wq => ∃ at' : Nat, at' ≤ ss.length ∧ s5 = .int .i64 at' ∧ Hid (∀ j s, j < at' → ss[j]? = some s → ltI s.2 I) ∧ Below wo.heap.size wo wq) (fun s5 _ => ss.length - (intOf s5).toNat)
      case atStart => exact ⟨0, Nat.zero_le _, rfl, Lib.hid (fun j s hj => by omega), Below.refl _ _⟩
      case round =>
        obtain ⟨at', hat, rfl, hall, hb⟩ := hrel
        have hlow := Lib.hid (show ∀ j x, j < at' → (ss.map Prod.snd)[j]? = some x → ltI x I from fun j x hj hx => by
          rw [List.getElem?_map, Option.map_eq_some_iff] at hx
          obtain ⟨s, hs, rfl⟩ := hx
          exact hall.out j s hj hs)
        by_cases hat2 : at' < ss.length
        · obtain ⟨s, hs⟩ : ∃ s, ss[at']? = some s := ⟨_, List.getElem?_eq_getElem hat2⟩
          have hcl := Lib.hid (hless.out at' s hs)
          have hcs := Lib.hid (hsame.out at' s hs)
          have hg1 := keep_cell hb (hoc2.out at' s hs).1
          have hg2 := keep_cell hb hcIr.out
          have hs := Lib.hid hs
          have hati : (at' : Int) < (ss.length : Int) := by omega
          obtain ⟨⟨sa, sn, sc⟩, sx⟩ := s
          unfold slVI at hg1 hcl hcs
          dsimp only at hg1 hcl hcs
          cases hd : decide (ltI sx I)
          · rw [hd] at hcl
            have hnl : ¬ ltI sx I := by simpa using hd
            have hins2 := hins.out at' (by rw [List.length_map]; exact hat) hlow.out (fun x hx => by
              rw [List.getElem?_map, hs.out] at hx
              obtain rfl : sx = x := by simpa using hx
              exact hnl)
            rw [List.getElem?_map, hs.out] at hins2
            have hins2 := Lib.hid hins2
            clear hd hnl hlow hall
            go_wp2_with fail
            go_region_held3 (fun W => Below wo.heap.size wo W ∧ W.cell? ⟨ob, oo + at', none⟩ = some (.slice sa sn sc) ∧ W.cell? ⟨b, o + k, none⟩ = some (.slice Ia il Ic)) (first | (refine ⟨?_, ?_, ?_⟩ <;> (first | assumption | (exact Below.drew (by assumption)))) | (obtain ⟨hs1, hs2, hs3⟩ := ‹Below _ _ _ ∧ _ ∧ _›; exact ⟨keep_step (by assumption) hs1, keep_cell (by assumption) hs2, keep_cell (by assumption) hs3⟩)) (first | (go_at_call 59; refine (hcl.out _ (And.left ‹Below wo.heap.size wo _ ∧ _ ∧ _›)).mono ?_; rintro e w' ⟨rfl, hb'⟩))
            all_goals
              obtain ⟨hb2, hg3, hg4⟩ := ‹Below wo.heap.size wo _ ∧ _ ∧ _›
              clear hg1 hg2 hb
              cases he : decide (sx = I)
              · rw [he] at hcs
                have hres := hins2.out
                rw [if_neg (by simpa using he)] at hres
                have hres := Lib.hid hres
                clear he hins2
                go_wp2_with fail
                go_region_held3 (fun W => Below wo.heap.size wo W ∧ W.cell? ⟨ob, oo + at', none⟩ = some (.slice sa sn sc) ∧ W.cell? ⟨b, o + k, none⟩ = some (.slice Ia il Ic)) (first | (refine ⟨?_, ?_, ?_⟩ <;> (first | assumption | (exact Below.drew (by assumption)))) | (obtain ⟨hs1, hs2, hs3⟩ := ‹Below _ _ _ ∧ _ ∧ _›; exact ⟨keep_step (by assumption) hs1, keep_cell (by assumption) hs2, keep_cell (by assumption) hs3⟩)) (first | (go_at_call 60; refine (hcs.out _ (And.left ‹Below wo.heap.size wo _ ∧ _ ∧ _›)).mono ?_; rintro e w' ⟨rfl, hb'⟩))
                all_goals
                  obtain ⟨hb3, hg5, hg6⟩ := ‹Below wo.heap.size wo _ ∧ _ ∧ _›
                  clear hg3 hg4 hb2 hg5 hg6
                  have hkoc : (at' : Int) ≤ (oc : Int) := by omega
                  have hkn : (at' : Int) ≤ (ss.length : Int) := by omega
                  have htl := Lib.hid (show ((ss.take at').map slVI).length = at' by rw [List.length_map, List.length_take]; omega)
                  have hdl := Lib.hid (show ((ss.drop at').map slVI).length = (ss.length - at') by first | (rw [List.length_map, List.length_drop]; done) | (rw [List.length_map, List.length_drop]; omega))
                  have hto := Lib.hid (slI_oneCell (ss.take at'))
                  have hdo := Lib.hid (slI_oneCell (ss.drop at'))
                  obtain ⟨ad, had, hsrc0⟩ : ∃ ad : Addr, (if oc = at' then some (⟨ob, oo, none⟩ : Addr) else some ⟨ob, oo + at', none⟩) = some ad ∧ ∀ (W : World) (hW : Below wo.heap.size wo W) (j : Nat) (u : Value), ((ss.drop at').map slVI)[j]? = some u → W.cell? (ad.add j) = some u := by
                    by_cases hcc : oc = at'
                    · refine ⟨_, if_pos hcc, fun W hW j u hu => ?_⟩
                      rw [List.drop_of_length_le (by omega)] at hu
                      cases j <;> cases hu
                    · refine ⟨_, if_neg hcc, fun W hW j u hu => ?_⟩
                      rw [List.getElem?_map, Option.map_eq_some_iff] at hu
                      obtain ⟨x9, hx9, rfl⟩ := hu
                      rw [List.getElem?_drop] at hx9
                      rw [Addr.add_lit, show oo + at' + j = oo + (at' + j) by omega]
                      exact keep_cell hW (hoc2.out _ x9 hx9).1
                  have hsrc1 := Lib.hid (fun W (hW : Below wo.heap.size wo W) => show (at' = 0 ∧ (some (⟨ob, oo, none⟩ : Addr)) = none) ∨ ∃ ad : Addr, some (⟨ob, oo, none⟩ : Addr) = some ad ∧ ∀ j u, ((ss.take at').map slVI)[j]? = some u → W.cell? (ad.add j) = some u from .inr ⟨_, rfl, fun j u hu => by
                    rw [List.getElem?_map, Option.map_eq_some_iff] at hu
                    obtain ⟨x9, hx9, rfl⟩ := hu
                    rw [List.getElem?_take] at hx9
                    split at hx9
                    · rw [Addr.add_lit]; exact keep_cell hW (hoc2.out _ x9 hx9).1
                    · cases hx9⟩)
                  have hsrc3 := Lib.hid (fun W (hW : Below wo.heap.size wo W) => show ∃ ad' : Addr, some ad = some ad' ∧ ∀ j u, ((ss.drop at').map slVI)[j]? = some u → W.cell? (ad'.add j) = some u from ⟨ad, rfl, hsrc0 W hW⟩)
                  have hin9 := Lib.hid (fun (s : SlI) (hs : s ∈ ss) (W : World) (hW : Below wo.heap.size wo W) => show Ints W (slVI s) s.2 ∧ ∀ k, (slVI s).ownBlock = some k → w.heap.size ≤ k ∧ k < W.heap.size from by
                    obtain ⟨q9, hq9⟩ := List.getElem?_of_mem hs
                    exact ⟨(hoc2.out q9 s hq9).2.1.below hW (Nat.le_refl _), fun k hk => ⟨((hoc2.out q9 s hq9).2.2 k hk).1, Nat.lt_of_lt_of_le ((hoc2.out q9 s hq9).2.2 k hk).2 hW.size⟩⟩)
                  have hmax1 : 0 + at' ≤ maxLen := by unfold maxLen; omega
                  have hmax2 : at' + 1 ≤ maxLen := by unfold maxLen; omega
                  have hmax3 : at' + 1 + (ss.length - at') ≤ maxLen := by unfold maxLen; omega
                  have hmax4 : (at' + 1 + (ss.length - at')) * 24 ≤ 140737488355328 := by omega
                  clear hsrc0 hoc2
                  obtain rfl : ad = ⟨ob, oo + at', none⟩ := by rw [if_neg (by omega)] at had; exact (Option.some.inj had).symm
                  clear had
                  have hneq : ¬ oc = at' := by omega
                  have hlit := Lib.hid (fun (W : World) (hW : Below wo.heap.size wo W) => World.ownsRow_lit (e := 48) (base := wo.heap.size) (size := 1) W #[] 0 hW.size (by simp [maxLen]) rfl)
                  have bA := Lib.hid (fun (W : World) (hW : Below wo.heap.size wo W) => hW.alloc hW.size (.cells #[] 48))
                  go_upto_region 10 with (at_builtin; refine wpList_append_src rfl _ _ 24 rfl wo.heap.size 48 i0 (.slice none 0 0) 24 Tryz.underlying24 hi hz0 hz1 hz2 rfl _ 0 [] rfl (hlit.out _ hb3) (some ⟨ob, oo, none⟩) at' oc ((ss.take at').map slVI) rfl htl.out (hsrc1.out _ (bA.out _ hb3)) hto.out hmax1 (by omega) (bA.out _ hb3).size ?_; intro v1 w1 hown1 hgrow1 hblk1)
                  rw [Nat.zero_add, List.nil_append] at hown1
                  have B1 := Lib.hid ((bA.out _ hb3).grown hgrow1 (bA.out _ hb3).size (fun j hj => ((hlit.out _ hb3).lt j hj).1))
                  have hc1 := keep_cell B1.out hcIr.out
                  have own1 := Lib.hid hown1
                  clear hown1 hgrow1 hblk1
                  go_wp2_with fail
                  refine (hown.out _ (keep_step B1.out hbh.out)).mono ?_
                  rintro e w2 ⟨v2, rfl, o2, b2⟩
                  obtain ⟨a2, cp2, e2⟩ := (ints_of_own (xs := I) o2).shape
                  rw [hIL.out] at e2
                  subst e2
                  have o2 := Lib.hid o2
                  have b3 := Lib.hid (b2.alloc b2.size (.cells #[.slice a2 il cp2] 48))
                  have B3 := Lib.hid (keep_step b3.out B1.out)
                  have own3 := Lib.hid (own_below own1.out b3.out (Nat.le_refl _))
                  have hnew := Lib.hid (cell_one_new w2 (.slice a2 il cp2) 48)
                  have hks3 : wo.heap.size ≤ (w2.alloc (.cells #[.slice a2 il cp2] 48)).heap.size := B3.out.size
                  go_upto_region 11 with (at_builtin; refine wpList_append_own_at _ rfl _ _ 24 rfl wo.heap.size 48 i0 (.slice none 0 0) 1 24 Tryz.underlying24 hi hz0 hz1 hz2 rfl (by decide) _ at' ((ss.take at').map slVI) rfl own3.out ⟨w2.heap.size, 0, none⟩ 1 1 [.slice a2 il cp2] rfl rfl hnew.out (by simp [Value.oneCell']) hmax2 (by omega) hks3 ?_; intro v4 w4 hown4 hgrow4 _ hblk4)
                  have B4 := Lib.hid (B3.out.grown hgrow4 hks3 (fun j hj => (own3.out.lt j hj).1))
                  have own4 := Lib.hid hown4
                  have hI4 := Lib.hid (show Ints w4 (.slice a2 il cp2) I ∧ ∀ q, (Value.slice a2 il cp2).ownBlock = some q → v4.ownBlock ≠ some q ∧ w.heap.size ≤ q ∧ q < w4.heap.size from by
                    have h1 := own_lt own1.out
                    have h2 := fun q hq => (o2.out.lt q hq)
                    have h4 := b2.size
                    have h6 : Ints w2 (.slice a2 il cp2) I := by have h7 := o2.out; rw [← hIL.out] at h7 ⊢; exact ints_of_own h7
                    refine ⟨ints_grown (h6.below ((Below.refl w2.heap.size w2).alloc (Nat.le_refl _) _) (Nat.le_refl _)) hgrow4 (fun q hq hq2 => ?_), fun q hq => ?_⟩
                    · have := h1 q hq
                      have := (h2 q hq2).1
                      omega
                    · have h3 := h2 q hq
                      refine ⟨fun hq2 => ?_, by have := (keep_step B1.out hbh.out).size; omega, by have h8 := hgrow4.size; simp at h8; omega⟩
                      rcases hblk4 with e | e
                      · rw [e] at hq2
                        have := h1 q hq2
                        omega
                      · rw [e] at hq2
                        have h5 := Option.some.inj hq2
                        simp at h5
                        omega)
                  clear hown4 hgrow4 hblk4 o2 b2 b3 own3
                  go_wp2_with (at_builtin; refine wpList_append_src rfl _ _ 24 rfl wo.heap.size 48 i0 (.slice none 0 0) 24 Tryz.underlying24 hi hz0 hz1 hz2 rfl _ (at' + 1) _ rfl own4.out (some ⟨ob, oo + at', none⟩) ((ss.length - at')) _ ((ss.drop at').map slVI) rfl hdl.out (.inr (hsrc3.out _ B4.out)) hdo.out hmax3 hmax4 B4.out.size ?_; intro v5 w5 hown5 hgrow5 hblk5)
                  have B5 := Lib.hid (B4.out.grown hgrow5 B4.out.size (fun j hj => (own4.out.lt j hj).1))
                  have hfin := Lib.hid (show FiA w.heap.size w5 v5 (allU ltI (Is.take (k + 1))) from by
                    have e9 : (ss.take at').map slVI ++ [Value.slice a2 il cp2] ++ (ss.drop at').map slVI = (ss.take at' ++ [((a2, il, cp2), I)] ++ ss.drop at').map slVI := by
                      rw [List.map_append, List.map_append]; rfl
                    rw [e9] at hown5
                    have h9 := fiA_of_own hown5 (fun s hs => by
                      rw [List.append_assoc] at hs
                      rcases List.mem_append.1 hs with hs | hs
                      · exact hin9.out s (List.mem_of_mem_take hs) w5 B5.out
                      · rcases List.mem_append.1 hs with hs | hs
                        · obtain rfl : s = ((a2, il, cp2), I) := by simpa using hs
                          exact ⟨ints_grown hI4.out.1 hgrow5 (fun q hq hq2 => (hI4.out.2 q hq2).1 hq), fun q hq => ⟨(hI4.out.2 q hq).2.1, Nat.lt_of_lt_of_le (hI4.out.2 q hq).2.2 hgrow5.size⟩⟩
                        · exact hin9.out s (List.mem_of_mem_drop hs) w5 B5.out) (by omega) hbh.out.size
                    rw [hUk.out, hres.out]
                    rw [List.map_append, List.map_append, List.map_take, List.map_drop] at h9
                    simpa using h9)
                  clear hown5 hgrow5 hblk5
                  go_roundw
                  case rel => exact ⟨k + 1, by omega, by go_num, hfin, keep_step B5.out hbh.out⟩
                  case measure => simp [intOf]; omega
              · rw [he] at hcs
                have hfin := hins2.out
                have he2 : sx = I := by simpa using he
                rw [he2, Option.map_some, if_pos rfl, ← hUk.out, ← hold.out] at hfin
                have hfin := Lib.hid hfin
                clear he he2 hins2
                go_wp2_with fail
                go_region_held3 (fun W => Below wo.heap.size wo W ∧ W.cell? ⟨ob, oo + at', none⟩ = some (.slice sa sn sc) ∧ W.cell? ⟨b, o + k, none⟩ = some (.slice Ia il Ic)) (first | (refine ⟨?_, ?_, ?_⟩ <;> (first | assumption | (exact Below.drew (by assumption)))) | (obtain ⟨hs1, hs2, hs3⟩ := ‹Below _ _ _ ∧ _ ∧ _›; exact ⟨keep_step (by assumption) hs1, keep_cell (by assumption) hs2, keep_cell (by assumption) hs3⟩)) (first | (go_at_call 60; refine (hcs.out _ (And.left ‹Below wo.heap.size wo _ ∧ _ ∧ _›)).mono ?_; rintro e w' ⟨rfl, hb'⟩))
                all_goals
                  obtain ⟨hb3, hg5, hg6⟩ := ‹Below wo.heap.size wo _ ∧ _ ∧ _›
                  have hfi := Lib.hid (show FiA w.heap.size _ (.slice (some ⟨ob, oo, none⟩) ss.length oc) (allU ltI (Is.take (k + 1))) from by rw [hfin.out]; exact hofi.out.below hb3 (Nat.le_refl _))
                  have hB := Lib.hid (keep_step hb3 hbh.out)
                  clear hg3 hg4 hb2 hg5 hg6 hb3
                  go_wp2_with fail
                  go_roundw
                  case rel => exact ⟨k + 1, by omega, by go_num, hfi, hB.out⟩
                  case measure => simp [intOf]; omega
          · rw [hd] at hcl
            have hall2 := Lib.hid (show ∀ j s, j < at' + 1 → ss[j]? = some s → ltI s.2 I from fun j s hj hs2 => by
              rcases Nat.lt_or_ge j at' with h1 | h1
              · exact hall.out j s h1 hs2
              · obtain rfl : j = at' := by omega
                rw [hs.out] at hs2
                obtain rfl := Option.some.inj hs2
                simpa using hd)
            clear hd hlow
            go_wp2_with fail
            go_region_held3 (fun W => Below wo.heap.size wo W ∧ W.cell? ⟨ob, oo + at', none⟩ = some (.slice sa sn sc) ∧ W.cell? ⟨b, o + k, none⟩ = some (.slice Ia il Ic)) (first | (refine ⟨?_, ?_, ?_⟩ <;> (first | assumption | (exact Below.drew (by assumption)))) | (obtain ⟨hs1, hs2, hs3⟩ := ‹Below _ _ _ ∧ _ ∧ _›; exact ⟨keep_step (by assumption) hs1, keep_cell (by assumption) hs2, keep_cell (by assumption) hs3⟩)) (first | (go_at_call 59; refine (hcl.out _ (And.left ‹Below wo.heap.size wo _ ∧ _ ∧ _›)).mono ?_; rintro e w' ⟨rfl, hb'⟩))
            all_goals
              obtain ⟨hb2, hg3, hg4⟩ := ‹Below wo.heap.size wo _ ∧ _ ∧ _›
              clear hg1 hg2 hb hg3 hg4
              go_wp2_with fail
              go_roundw
              case rel => exact ⟨at' + 1, by omega, by go_num, hall2, hb2⟩
              case measure => simp [intOf]; omega
        · obtain rfl : at' = ss.length := by omega
          have hres := hins.out ss.length (by rw [List.length_map]; exact Nat.le_refl _) hlow.out (fun x hx => by rw [List.getElem?_eq_none (by rw [List.length_map]; exact Nat.le_refl _)] at hx; cases hx)
          rw [List.getElem?_eq_none (by rw [List.length_map]; exact Nat.le_refl _), if_neg (by simp)] at hres
          have hres := Lib.hid hres
          have hbX := Lib.hid (fun (a : Nat) => show Below wo.heap.size wo (wr.drewN a) from below_drewN hb a)
          clear hlow hall hb hless hsame
          go_wp2_with fail
          go_quiet (fail)
          go_wp2_with fail
          go_quiet (fail)
          by_cases hcc9 : oc = ss.length
          · subst hcc9
            have hkoc : (ss.length : Int) ≤ (ss.length : Int) := by omega
            have hkn : (ss.length : Int) ≤ (ss.length : Int) := by omega
            have htl := Lib.hid (show ((ss.take ss.length).map slVI).length = ss.length by rw [List.length_map, List.length_take]; omega)
            have hdl := Lib.hid (show ((ss.drop ss.length).map slVI).length = 0 by first | (rw [List.length_map, List.length_drop]; done) | (rw [List.length_map, List.length_drop]; omega))
            have hto := Lib.hid (slI_oneCell (ss.take ss.length))
            have hdo := Lib.hid (slI_oneCell (ss.drop ss.length))
            obtain ⟨ad, had, hsrc0⟩ : ∃ ad : Addr, (if ss.length = ss.length then some (⟨ob, oo, none⟩ : Addr) else some ⟨ob, oo + ss.length, none⟩) = some ad ∧ ∀ (W : World) (hW : Below wo.heap.size wo W) (j : Nat) (u : Value), ((ss.drop ss.length).map slVI)[j]? = some u → W.cell? (ad.add j) = some u := by
              by_cases hcc : ss.length = ss.length
              · refine ⟨_, if_pos hcc, fun W hW j u hu => ?_⟩
                rw [List.drop_of_length_le (by omega)] at hu
                cases j <;> cases hu
              · refine ⟨_, if_neg hcc, fun W hW j u hu => ?_⟩
                rw [List.getElem?_map, Option.map_eq_some_iff] at hu
                obtain ⟨x9, hx9, rfl⟩ := hu
                rw [List.getElem?_drop] at hx9
                rw [Addr.add_lit, show oo + ss.length + j = oo + (ss.length + j) by omega]
                exact keep_cell hW (hoc2.out _ x9 hx9).1
            have hsrc1 := Lib.hid (fun W (hW : Below wo.heap.size wo W) => show (ss.length = 0 ∧ (some (⟨ob, oo, none⟩ : Addr)) = none) ∨ ∃ ad : Addr, some (⟨ob, oo, none⟩ : Addr) = some ad ∧ ∀ j u, ((ss.take ss.length).map slVI)[j]? = some u → W.cell? (ad.add j) = some u from .inr ⟨_, rfl, fun j u hu => by
              rw [List.getElem?_map, Option.map_eq_some_iff] at hu
              obtain ⟨x9, hx9, rfl⟩ := hu
              rw [List.getElem?_take] at hx9
              split at hx9
              · rw [Addr.add_lit]; exact keep_cell hW (hoc2.out _ x9 hx9).1
              · cases hx9⟩)
            have hsrc3 := Lib.hid (fun W (hW : Below wo.heap.size wo W) => show ∃ ad' : Addr, some ad = some ad' ∧ ∀ j u, ((ss.drop ss.length).map slVI)[j]? = some u → W.cell? (ad'.add j) = some u from ⟨ad, rfl, hsrc0 W hW⟩)
            have hin9 := Lib.hid (fun (s : SlI) (hs : s ∈ ss) (W : World) (hW : Below wo.heap.size wo W) => show Ints W (slVI s) s.2 ∧ ∀ k, (slVI s).ownBlock = some k → w.heap.size ≤ k ∧ k < W.heap.size from by
              obtain ⟨q9, hq9⟩ := List.getElem?_of_mem hs
              exact ⟨(hoc2.out q9 s hq9).2.1.below hW (Nat.le_refl _), fun k hk => ⟨((hoc2.out q9 s hq9).2.2 k hk).1, Nat.lt_of_lt_of_le ((hoc2.out q9 s hq9).2.2 k hk).2 hW.size⟩⟩)
            have hmax1 : 0 + ss.length ≤ maxLen := by unfold maxLen; omega
            have hmax2 : ss.length + 1 ≤ maxLen := by unfold maxLen; omega
            have hmax3 : ss.length + 1 + 0 ≤ maxLen := by unfold maxLen; omega
            have hmax4 : (ss.length + 1 + 0) * 24 ≤ 140737488355328 := by omega
            clear hsrc0 hoc2
            obtain rfl : ad = ⟨ob, oo, none⟩ := by rw [if_pos rfl] at had; exact (Option.some.inj had).symm
            clear had
            have hlit := Lib.hid (fun (W : World) (hW : Below wo.heap.size wo W) => World.ownsRow_lit (e := 48) (base := wo.heap.size) (size := 1) W #[] 0 hW.size (by simp [maxLen]) rfl)
            have bA := Lib.hid (fun (W : World) (hW : Below wo.heap.size wo W) => hW.alloc hW.size (.cells #[] 48))
            go_upto_region 10 with (at_builtin; refine wpList_append_src rfl _ _ 24 rfl wo.heap.size 48 i0 (.slice none 0 0) 24 Tryz.underlying24 hi hz0 hz1 hz2 rfl _ 0 [] rfl (hlit.out _ (hbX.out _)) (some ⟨ob, oo, none⟩) ss.length ss.length ((ss.take ss.length).map slVI) rfl htl.out (hsrc1.out _ (bA.out _ (hbX.out _))) hto.out hmax1 (by omega) (bA.out _ (hbX.out _)).size ?_; intro v1 w1 hown1 hgrow1 hblk1)
            rw [Nat.zero_add, List.nil_append] at hown1
            have B1 := Lib.hid ((bA.out _ (hbX.out _)).grown hgrow1 (bA.out _ (hbX.out _)).size (fun j hj => ((hlit.out _ (hbX.out 0)).lt j hj).1))
            have hc1 := keep_cell B1.out hcIr.out
            have own1 := Lib.hid hown1
            clear hown1 hgrow1 hblk1
            go_wp2_with fail
            refine (hown.out _ (keep_step B1.out hbh.out)).mono ?_
            rintro e w2 ⟨v2, rfl, o2, b2⟩
            obtain ⟨a2, cp2, e2⟩ := (ints_of_own (xs := I) o2).shape
            rw [hIL.out] at e2
            subst e2
            have o2 := Lib.hid o2
            have b3 := Lib.hid (b2.alloc b2.size (.cells #[.slice a2 il cp2] 48))
            have B3 := Lib.hid (keep_step b3.out B1.out)
            have own3 := Lib.hid (own_below own1.out b3.out (Nat.le_refl _))
            have hnew := Lib.hid (cell_one_new w2 (.slice a2 il cp2) 48)
            have hks3 : wo.heap.size ≤ (w2.alloc (.cells #[.slice a2 il cp2] 48)).heap.size := B3.out.size
            go_upto_region 11 with (at_builtin; refine wpList_append_own_at _ rfl _ _ 24 rfl wo.heap.size 48 i0 (.slice none 0 0) 1 24 Tryz.underlying24 hi hz0 hz1 hz2 rfl (by decide) _ ss.length ((ss.take ss.length).map slVI) rfl own3.out ⟨w2.heap.size, 0, none⟩ 1 1 [.slice a2 il cp2] rfl rfl hnew.out (by simp [Value.oneCell']) hmax2 (by omega) hks3 ?_; intro v4 w4 hown4 hgrow4 _ hblk4)
            have B4 := Lib.hid (B3.out.grown hgrow4 hks3 (fun j hj => (own3.out.lt j hj).1))
            have own4 := Lib.hid hown4
            have hI4 := Lib.hid (show Ints w4 (.slice a2 il cp2) I ∧ ∀ q, (Value.slice a2 il cp2).ownBlock = some q → v4.ownBlock ≠ some q ∧ w.heap.size ≤ q ∧ q < w4.heap.size from by
              have h1 := own_lt own1.out
              have h2 := fun q hq => (o2.out.lt q hq)
              have h4 := b2.size
              have h6 : Ints w2 (.slice a2 il cp2) I := by have h7 := o2.out; rw [← hIL.out] at h7 ⊢; exact ints_of_own h7
              refine ⟨ints_grown (h6.below ((Below.refl w2.heap.size w2).alloc (Nat.le_refl _) _) (Nat.le_refl _)) hgrow4 (fun q hq hq2 => ?_), fun q hq => ?_⟩
              · have := h1 q hq
                have := (h2 q hq2).1
                omega
              · have h3 := h2 q hq
                refine ⟨fun hq2 => ?_, by have := (keep_step B1.out hbh.out).size; omega, by have h8 := hgrow4.size; simp at h8; omega⟩
                rcases hblk4 with e | e
                · rw [e] at hq2
                  have := h1 q hq2
                  omega
                · rw [e] at hq2
                  have h5 := Option.some.inj hq2
                  simp at h5
                  omega)
            clear hown4 hgrow4 hblk4 o2 b2 b3 own3
            go_wp2_with (at_builtin; refine wpList_append_src rfl _ _ 24 rfl wo.heap.size 48 i0 (.slice none 0 0) 24 Tryz.underlying24 hi hz0 hz1 hz2 rfl _ (ss.length + 1) _ rfl own4.out (some ⟨ob, oo, none⟩) (0) _ ((ss.drop ss.length).map slVI) rfl hdl.out (.inr (hsrc3.out _ B4.out)) hdo.out hmax3 hmax4 B4.out.size ?_; intro v5 w5 hown5 hgrow5 hblk5)
            have B5 := Lib.hid (B4.out.grown hgrow5 B4.out.size (fun j hj => (own4.out.lt j hj).1))
            have hfin := Lib.hid (show FiA w.heap.size w5 v5 (allU ltI (Is.take (k + 1))) from by
              have e9 : (ss.take ss.length).map slVI ++ [Value.slice a2 il cp2] ++ (ss.drop ss.length).map slVI = (ss.take ss.length ++ [((a2, il, cp2), I)] ++ ss.drop ss.length).map slVI := by
                rw [List.map_append, List.map_append]; rfl
              rw [e9] at hown5
              have h9 := fiA_of_own hown5 (fun s hs => by
                rw [List.append_assoc] at hs
                rcases List.mem_append.1 hs with hs | hs
                · exact hin9.out s (List.mem_of_mem_take hs) w5 B5.out
                · rcases List.mem_append.1 hs with hs | hs
                  · obtain rfl : s = ((a2, il, cp2), I) := by simpa using hs
                    exact ⟨ints_grown hI4.out.1 hgrow5 (fun q hq hq2 => (hI4.out.2 q hq2).1 hq), fun q hq => ⟨(hI4.out.2 q hq).2.1, Nat.lt_of_lt_of_le (hI4.out.2 q hq).2.2 hgrow5.size⟩⟩
                  · exact hin9.out s (List.mem_of_mem_drop hs) w5 B5.out) (by omega) hbh.out.size
              rw [hUk.out, hres.out]
              rw [List.map_append, List.map_append, List.map_take, List.map_drop] at h9
              simpa using h9)
            clear hown5 hgrow5 hblk5
            go_roundw
            case rel => exact ⟨k + 1, by omega, by go_num, hfin, keep_step B5.out hbh.out⟩
            case measure => simp [intOf]; omega
          · have hneq : ¬ oc = ss.length := hcc9
            clear hcc9
            have hkoc : (ss.length : Int) ≤ (oc : Int) := by omega
            have hkn : (ss.length : Int) ≤ (ss.length : Int) := by omega
            have htl := Lib.hid (show ((ss.take ss.length).map slVI).length = ss.length by rw [List.length_map, List.length_take]; omega)
            have hdl := Lib.hid (show ((ss.drop ss.length).map slVI).length = 0 by first | (rw [List.length_map, List.length_drop]; done) | (rw [List.length_map, List.length_drop]; omega))
            have hto := Lib.hid (slI_oneCell (ss.take ss.length))
            have hdo := Lib.hid (slI_oneCell (ss.drop ss.length))
            obtain ⟨ad, had, hsrc0⟩ : ∃ ad : Addr, (if oc = ss.length then some (⟨ob, oo, none⟩ : Addr) else some ⟨ob, oo + ss.length, none⟩) = some ad ∧ ∀ (W : World) (hW : Below wo.heap.size wo W) (j : Nat) (u : Value), ((ss.drop ss.length).map slVI)[j]? = some u → W.cell? (ad.add j) = some u := by
              by_cases hcc : oc = ss.length
              · refine ⟨_, if_pos hcc, fun W hW j u hu => ?_⟩
                rw [List.drop_of_length_le (by omega)] at hu
                cases j <;> cases hu
              · refine ⟨_, if_neg hcc, fun W hW j u hu => ?_⟩
                rw [List.getElem?_map, Option.map_eq_some_iff] at hu
                obtain ⟨x9, hx9, rfl⟩ := hu
                rw [List.getElem?_drop] at hx9
                rw [Addr.add_lit, show oo + ss.length + j = oo + (ss.length + j) by omega]
                exact keep_cell hW (hoc2.out _ x9 hx9).1
            have hsrc1 := Lib.hid (fun W (hW : Below wo.heap.size wo W) => show (ss.length = 0 ∧ (some (⟨ob, oo, none⟩ : Addr)) = none) ∨ ∃ ad : Addr, some (⟨ob, oo, none⟩ : Addr) = some ad ∧ ∀ j u, ((ss.take ss.length).map slVI)[j]? = some u → W.cell? (ad.add j) = some u from .inr ⟨_, rfl, fun j u hu => by
              rw [List.getElem?_map, Option.map_eq_some_iff] at hu
              obtain ⟨x9, hx9, rfl⟩ := hu
              rw [List.getElem?_take] at hx9
              split at hx9
              · rw [Addr.add_lit]; exact keep_cell hW (hoc2.out _ x9 hx9).1
              · cases hx9⟩)
            have hsrc3 := Lib.hid (fun W (hW : Below wo.heap.size wo W) => show ∃ ad' : Addr, some ad = some ad' ∧ ∀ j u, ((ss.drop ss.length).map slVI)[j]? = some u → W.cell? (ad'.add j) = some u from ⟨ad, rfl, hsrc0 W hW⟩)
            have hin9 := Lib.hid (fun (s : SlI) (hs : s ∈ ss) (W : World) (hW : Below wo.heap.size wo W) => show Ints W (slVI s) s.2 ∧ ∀ k, (slVI s).ownBlock = some k → w.heap.size ≤ k ∧ k < W.heap.size from by
              obtain ⟨q9, hq9⟩ := List.getElem?_of_mem hs
              exact ⟨(hoc2.out q9 s hq9).2.1.below hW (Nat.le_refl _), fun k hk => ⟨((hoc2.out q9 s hq9).2.2 k hk).1, Nat.lt_of_lt_of_le ((hoc2.out q9 s hq9).2.2 k hk).2 hW.size⟩⟩)
            have hmax1 : 0 + ss.length ≤ maxLen := by unfold maxLen; omega
            have hmax2 : ss.length + 1 ≤ maxLen := by unfold maxLen; omega
            have hmax3 : ss.length + 1 + 0 ≤ maxLen := by unfold maxLen; omega
            have hmax4 : (ss.length + 1 + 0) * 24 ≤ 140737488355328 := by omega
            clear hsrc0 hoc2
            obtain rfl : ad = ⟨ob, oo + ss.length, none⟩ := by rw [if_neg hneq] at had; exact (Option.some.inj had).symm
            clear had
            have hlit := Lib.hid (fun (W : World) (hW : Below wo.heap.size wo W) => World.ownsRow_lit (e := 48) (base := wo.heap.size) (size := 1) W #[] 0 hW.size (by simp [maxLen]) rfl)
            have bA := Lib.hid (fun (W : World) (hW : Below wo.heap.size wo W) => hW.alloc hW.size (.cells #[] 48))
            go_upto_region 10 with (at_builtin; refine wpList_append_src rfl _ _ 24 rfl wo.heap.size 48 i0 (.slice none 0 0) 24 Tryz.underlying24 hi hz0 hz1 hz2 rfl _ 0 [] rfl (hlit.out _ (hbX.out _)) (some ⟨ob, oo, none⟩) ss.length oc ((ss.take ss.length).map slVI) rfl htl.out (hsrc1.out _ (bA.out _ (hbX.out _))) hto.out hmax1 (by omega) (bA.out _ (hbX.out _)).size ?_; intro v1 w1 hown1 hgrow1 hblk1)
            rw [Nat.zero_add, List.nil_append] at hown1
            have B1 := Lib.hid ((bA.out _ (hbX.out _)).grown hgrow1 (bA.out _ (hbX.out _)).size (fun j hj => ((hlit.out _ (hbX.out 0)).lt j hj).1))
            have hc1 := keep_cell B1.out hcIr.out
            have own1 := Lib.hid hown1
            clear hown1 hgrow1 hblk1
            go_wp2_with fail
            refine (hown.out _ (keep_step B1.out hbh.out)).mono ?_
            rintro e w2 ⟨v2, rfl, o2, b2⟩
            obtain ⟨a2, cp2, e2⟩ := (ints_of_own (xs := I) o2).shape
            rw [hIL.out] at e2
            subst e2
            have o2 := Lib.hid o2
            have b3 := Lib.hid (b2.alloc b2.size (.cells #[.slice a2 il cp2] 48))
            have B3 := Lib.hid (keep_step b3.out B1.out)
            have own3 := Lib.hid (own_below own1.out b3.out (Nat.le_refl _))
            have hnew := Lib.hid (cell_one_new w2 (.slice a2 il cp2) 48)
            have hks3 : wo.heap.size ≤ (w2.alloc (.cells #[.slice a2 il cp2] 48)).heap.size := B3.out.size
            go_upto_region 11 with (at_builtin; refine wpList_append_own_at _ rfl _ _ 24 rfl wo.heap.size 48 i0 (.slice none 0 0) 1 24 Tryz.underlying24 hi hz0 hz1 hz2 rfl (by decide) _ ss.length ((ss.take ss.length).map slVI) rfl own3.out ⟨w2.heap.size, 0, none⟩ 1 1 [.slice a2 il cp2] rfl rfl hnew.out (by simp [Value.oneCell']) hmax2 (by omega) hks3 ?_; intro v4 w4 hown4 hgrow4 _ hblk4)
            have B4 := Lib.hid (B3.out.grown hgrow4 hks3 (fun j hj => (own3.out.lt j hj).1))
            have own4 := Lib.hid hown4
            have hI4 := Lib.hid (show Ints w4 (.slice a2 il cp2) I ∧ ∀ q, (Value.slice a2 il cp2).ownBlock = some q → v4.ownBlock ≠ some q ∧ w.heap.size ≤ q ∧ q < w4.heap.size from by
              have h1 := own_lt own1.out
              have h2 := fun q hq => (o2.out.lt q hq)
              have h4 := b2.size
              have h6 : Ints w2 (.slice a2 il cp2) I := by have h7 := o2.out; rw [← hIL.out] at h7 ⊢; exact ints_of_own h7
              refine ⟨ints_grown (h6.below ((Below.refl w2.heap.size w2).alloc (Nat.le_refl _) _) (Nat.le_refl _)) hgrow4 (fun q hq hq2 => ?_), fun q hq => ?_⟩
              · have := h1 q hq
                have := (h2 q hq2).1
                omega
              · have h3 := h2 q hq
                refine ⟨fun hq2 => ?_, by have := (keep_step B1.out hbh.out).size; omega, by have h8 := hgrow4.size; simp at h8; omega⟩
                rcases hblk4 with e | e
                · rw [e] at hq2
                  have := h1 q hq2
                  omega
                · rw [e] at hq2
                  have h5 := Option.some.inj hq2
                  simp at h5
                  omega)
            clear hown4 hgrow4 hblk4 o2 b2 b3 own3
            go_wp2_with (at_builtin; refine wpList_append_src rfl _ _ 24 rfl wo.heap.size 48 i0 (.slice none 0 0) 24 Tryz.underlying24 hi hz0 hz1 hz2 rfl _ (ss.length + 1) _ rfl own4.out (some ⟨ob, oo + ss.length, none⟩) (0) _ ((ss.drop ss.length).map slVI) rfl hdl.out (.inr (hsrc3.out _ B4.out)) hdo.out hmax3 hmax4 B4.out.size ?_; intro v5 w5 hown5 hgrow5 hblk5)
            have B5 := Lib.hid (B4.out.grown hgrow5 B4.out.size (fun j hj => (own4.out.lt j hj).1))
            have hfin := Lib.hid (show FiA w.heap.size w5 v5 (allU ltI (Is.take (k + 1))) from by
              have e9 : (ss.take ss.length).map slVI ++ [Value.slice a2 il cp2] ++ (ss.drop ss.length).map slVI = (ss.take ss.length ++ [((a2, il, cp2), I)] ++ ss.drop ss.length).map slVI := by
                rw [List.map_append, List.map_append]; rfl
              rw [e9] at hown5
              have h9 := fiA_of_own hown5 (fun s hs => by
                rw [List.append_assoc] at hs
                rcases List.mem_append.1 hs with hs | hs
                · exact hin9.out s (List.mem_of_mem_take hs) w5 B5.out
                · rcases List.mem_append.1 hs with hs | hs
                  · obtain rfl : s = ((a2, il, cp2), I) := by simpa using hs
                    exact ⟨ints_grown hI4.out.1 hgrow5 (fun q hq hq2 => (hI4.out.2 q hq2).1 hq), fun q hq => ⟨(hI4.out.2 q hq).2.1, Nat.lt_of_lt_of_le (hI4.out.2 q hq).2.2 hgrow5.size⟩⟩
                  · exact hin9.out s (List.mem_of_mem_drop hs) w5 B5.out) (by omega) hbh.out.size
              rw [hUk.out, hres.out]
              rw [List.map_append, List.map_append, List.map_take, List.map_drop] at h9
              simpa using h9)
            clear hown5 hgrow5 hblk5
            go_roundw
            case rel => exact ⟨k + 1, by omega, by go_num, hfin, keep_step B5.out hbh.out⟩
            case measure => simp [intOf]; omega
    · obtain rfl : k = Is.length := by omega
      have hfin := Lib.hid (show FiA w.heap.size wr _ (allU ltI Is) from by rw [← hUa.out]; exact hf.out)
      go_wp2_with fail
      go_ret
      exact ⟨_, rfl, hfin.out, hb⟩
end Go.Proofs.YtmhkcicjbgifnaaGreat
