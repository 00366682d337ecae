/- What the laws draw out of a code: two formulas to be unified. -/
import Derived.Test.YtdpnkojchimmfaaQBDrawAny

namespace Go.Proofs.Ytdpnkojchimmfaa
open Go.RowKit Go.Deep
set_option linter.unusedVariables false

/-- A list of nodes with another in the place of the part at i. -/
def putL (a : List Nd) (i : Nat) (d : List Nd) : List Nd := a.take i ++ (d ++ a.drop (i + (partL a i).length))
theorem skip_swap (y y' : List Nd) (hy : y ≠ []) (h : ∀ o, skip y (o + 1) = skip y' (o + 1)) : ∀ (x : List Nd) (o : Nat), skip (x ++ y) o = some [] → skip (x ++ y') o = some [] := by
  intro x
  induction x with
  | nil =>
    intro o h1
    cases o with
    | zero => rw [List.nil_append, skip_zero] at h1; exact absurd (Option.some.inj h1) hy
    | succ o => rw [List.nil_append] at h1 ⊢; rw [← h]; exact h1
  | cons n x ih =>
    intro o h1
    cases o with
    | zero => rw [skip_zero] at h1; exact absurd (Option.some.inj h1) (by simp)
    | succ o =>
      rw [List.cons_append, skip_cons] at h1 ⊢
      exact ih _ h1
theorem put_split {a : List Nd} (ha : formB a = true) {i : Nat} (hi : i < a.length) : a = a.take i ++ (partL a i ++ a.drop (i + (partL a i).length)) ∧ 0 < (partL a i).length ∧ i + (partL a i).length ≤ a.length ∧ partEndL a i = ((i + (partL a i).length : Nat) : Int) := by
  obtain ⟨m, hm0, hm1, hme⟩ := part_in ha hi
  have hp := partL_eq hme
  have hl : (partL a i).length = m := by rw [← hp, List.length_take, List.length_drop]; omega
  refine ⟨?_, by omega, by omega, by rw [hl]; exact hme⟩
  conv => lhs; rw [← List.take_append_drop i a, ← List.take_append_drop m (a.drop i), hp, List.drop_drop]
  rw [hl]
theorem put_length {a : List Nd} (ha : formB a = true) {i : Nat} (hi : i < a.length) (d : List Nd) : (putL a i d).length + 1 ≤ a.length + d.length ∧ 0 < (putL a i d).length + 1 := by
  obtain ⟨_, h1, h2, _⟩ := put_split ha hi
  unfold putL
  simp only [List.length_append, List.length_take, List.length_drop]
  omega
theorem put_form {a d : List Nd} (ha : formB a = true) (hd : formB d = true) {i : Nat} (hi : i < a.length) (hl : (putL a i d).length ≤ 40) : formB (putL a i d) = true := by
  obtain ⟨hs, h1, h2, _⟩ := put_split ha hi
  have fp := (part_form ha hi).1
  have ha2 := ha
  have hd2 := hd
  simp only [formB, Bool.and_eq_true, decide_eq_true_eq] at ha2 hd2 ⊢
  refine ⟨⟨⟨?_, hl⟩, ?_⟩, ?_⟩
  · unfold putL
    simp only [List.length_append]
    omega
  · unfold putL
    rw [List.all_append, List.all_append, Bool.and_eq_true, Bool.and_eq_true]
    refine ⟨List.all_eq_true.2 fun n hn => List.all_eq_true.1 ha2.1.2 n (List.mem_of_mem_take hn), hd2.1.2, List.all_eq_true.2 fun n hn => List.all_eq_true.1 ha2.1.2 n (List.mem_of_mem_drop hn)⟩
  · unfold putL
    refine skip_swap _ _ (fun e => ?_) (fun o => ?_) (a.take i) 1 (by rw [← hs]; exact ha2.2)
    · have := congrArg List.length e
      simp only [List.length_append, List.length_nil] at this
      omega
    · rw [form_skip fp, form_skip hd]
theorem var_form {z : Int} (h0 : 0 ≤ z) (h5 : z ≤ 5) : formB [((0 : Int), z)] = true := by
  simp [formB, nodeB, skip, ar, h0, h5]

set_option maxHeartbeats 1000000 in
theorem l02OwnR_any (b o m c : Nat) (ns : List Nd) (w : World) (hm : ns.length = m) (hcell : ∀ j u, (cellsN ns)[j]? = some u → w.cell? ⟨b, o + j, none⟩ = some u) (hn : m ≤ 1000) :
    Calls Try.prog 50 #[.slice (some ⟨b, o, none⟩) m c] w fun e w' => ∃ v', e = .returned v' ∧ w'.ownsRow w.heap.size 41 2 v' m (cellsN ns) ∧ Below w.heap.size w w' := by
  obtain ⟨i0, hi, hz0, hz1, hz2⟩ := info_parts info_node
  have hlen := Lib.hid (cellsN_length ns)
  rw [hm] at hlen
  have hl0 := Lib.hid (World.ownsRow_lit (e := 41) (base := w.heap.size) (size := 2) w #[] 0 (Nat.le_refl _) (by simp [maxLen]) rfl)
  have hba := Lib.hid ((Below.refl w.heap.size w).alloc (Nat.le_refl _) (.cells #[] 41))
  have hsrc := Lib.hid (nodes_src (cells_below hcell hba.out (Nat.le_refl _)))
  have hone := Lib.hid (nodes_oneCell ns)
  go_enter Try.func50, Try.ntmps50
  go_wp2_with (at_builtin; refine wpList_append_own _ rfl _ _ 27 rfl w.heap.size 41 i0 (.agg #[.int .i64 0, .int .i64 0]) 2 16 Try.underlying27 hi hz0 hz1 hz2 rfl (by decide) _ _ _ rfl hl0.out ⟨b, o, none⟩ m c (cellsN ns) rfl hlen.out hsrc.out hone.out (by unfold maxLen; omega) (by omega) (by simp) ?_; intro v' w1 hown' hgrow _)
  go_ret
  refine ⟨v', rfl, ?_, hba.out.grown hgrow (by simp) (fun j hj => (hl0.out.lt j hj).1)⟩
  rw [Nat.zero_add] at hown'
  exact hown'

set_option maxHeartbeats 4000000 in
set_option maxRecDepth 100000 in
theorem l03Put_any (v : Value) (a : List Nd) (i : Nat) (vd : Value) (d : List Nd) (w : World) (h : Nodes w v a) (hf : formB a = true) (hi : i < a.length) (hd : Nodes w vd d) (hdp : 0 < d.length) (hdn : d.length ≤ 100) :
    Calls Try.prog 51 #[v, .int .i64 (i : Int), vd] w fun e w' => ∃ v', e = .returned v' ∧ w'.ownsRow w.heap.size 41 2 v' (putL a i d).length (cellsN (putL a i d)) ∧ Below w.heap.size w w' := by
  obtain ⟨i0, hinf, hz0, hz1, hz2⟩ := info_parts info_node
  obtain ⟨_, hp0, hp1, hpe⟩ := put_split hf hi
  have hl40 := (form_len3 hf).2
  obtain ⟨ca, ba, oa, rfl, hca, _, hcella⟩ := h.raw (by omega)
  obtain ⟨cd, bd, od, rfl, hcd, _, hcelld⟩ := hd.raw hdp
  have hpart := Lib.hid (fun W (hW : Below w.heap.size w W) => show Calls Try.prog 57 #[.slice (some ⟨ba, oa, none⟩) a.length ca, .int .i64 (i : Int)] W fun e w' => e = .returned (.int .i64 ((i + (partL a i).length : Nat) : Int)) ∧ W = w' from by
    have h9 := l02Part_any _ a (i : Int) W (h.below hW (Nat.le_refl _)) (by omega) (by omega) (by omega)
    rw [Int.toNat_natCast, hpe] at h9
    exact h9)
  have hown := Lib.hid (l02OwnR_any ba oa i ca (a.take i) w (by rw [List.length_take]; omega) (fun j u hu => by
    rw [cellsN_take, List.getElem?_take] at hu
    split at hu
    · exact hcella.out j u hu
    · cases hu) (by omega))
  have hsrcd := Lib.hid (fun W (hW : Below w.heap.size w W) => nodes_src (cells_below hcelld.out hW (Nat.le_refl _)))
  have honed := Lib.hid (nodes_oneCell d)
  have hlend := Lib.hid (cellsN_length d)
  have hput : putL a i d = a.take i ++ (d ++ a.drop (i + (partL a i).length)) := rfl
  generalize hm : (partL a i).length = m at *
  obtain ⟨ad, had, hsrc0⟩ : ∃ ad : Addr, (if ca = i + m then some (⟨ba, oa, none⟩ : Addr) else some ⟨ba, oa + (i + m) * 2, none⟩) = some ad ∧ ∀ j u, (cellsN (a.drop (i + m)))[j]? = some u → w.cell? (ad.add j) = some u := by
    by_cases hcc : ca = i + m
    · refine ⟨_, if_pos hcc, fun j u hu => ?_⟩
      rw [List.drop_of_length_le (by omega)] at hu
      cases j <;> cases hu
    · refine ⟨_, if_neg hcc, fun j u hu => ?_⟩
      rw [cellsN_drop, List.getElem?_drop] at hu
      have := hcella.out _ u hu
      rw [Addr.add_lit]
      rw [show oa + (i + m) * 2 + j = oa + ((i + m) * 2 + j) by omega]
      exact this
  have hsrc := Lib.hid (fun W (hW : Below w.heap.size w W) => show ∀ j u, (cellsN (a.drop (i + m)))[j]? = some u → W.cell? (ad.add j) = some u from fun j u hu => keep_cell hW (hsrc0 j u hu))
  have hone := Lib.hid (nodes_oneCell (a.drop (i + m)))
  have hlen9 := Lib.hid (show (cellsN (a.drop (i + m))).length = (a.length - (i + m)) * 2 by rw [cellsN_length, List.length_drop])
  have hres := Lib.hid (show ∀ (W : World) (v' : Value), W.ownsRow w.heap.size 41 2 v' (i + d.length + (a.length - (i + m))) (cellsN (a.take i) ++ cellsN d ++ cellsN (a.drop (i + m))) → W.ownsRow w.heap.size 41 2 v' (putL a i d).length (cellsN (putL a i d)) from fun W v' h9 => by
    have e1 : (putL a i d).length = i + d.length + (a.length - (i + m)) := by rw [hput]; simp only [List.length_append, List.length_take, List.length_drop]; omega
    rw [e1, hput, cellsN_append, cellsN_append, ← List.append_assoc]
    exact h9)
  have hs0 : (0 : Int) ≤ (i : Int) := by omega
  have hs1 : (i : Int) ≤ (ca : Int) := by omega
  have hs2 : ((i + m : Nat) : Int) ≤ (a.length : Int) := by omega
  have hs3 : (0 : Int) ≤ ((i + m : Nat) : Int) := by omega
  clear hput hm hpe hp0 hf h hd hcella hcelld hsrc0
  generalize cellsN (a.drop (i + m)) = dropped at *
  generalize cellsN (a.take i) = taken at *
  generalize putL a i d = P at *
  generalize cellsN d = cd2 at *
  generalize d.length = ld at *
  generalize a.length = la at *
  go_enter Try.func51, Try.ntmps51
  go_wp2_with fail
  refine hown.out.mono ?_
  rintro e w1 ⟨v1, rfl, o1, b1⟩
  have o1 := Lib.hid o1
  have hz1' := b1.size
  have hmax1 : i + ld ≤ maxLen := by unfold maxLen; omega
  have hmax2 : i + ld + (la - (i + m)) ≤ maxLen := by unfold maxLen; omega
  have hb1 := Lib.hid b1
  clear b1
  go_wp2_with (at_builtin; refine wpList_append_own_at _ rfl _ _ 27 rfl w.heap.size 41 i0 _ 2 16 Try.underlying27 hinf hz0 hz1 hz2 rfl (by decide) _ i taken rfl o1.out ⟨bd, od, none⟩ ld cd cd2 rfl hlend.out (hsrcd.out _ hb1.out) honed.out hmax1 (by omega) hz1' ?_; intro v2 w2 hown2 hgrow2 _ hblk2)
  have hB2 := Lib.hid (hb1.out.grown hgrow2 hz1' (fun j hj => (o1.out.lt j hj).1))
  have hz2' := hB2.out.size
  have o2 := Lib.hid hown2
  clear hgrow2 hblk2 hown2 o1
  refine (hpart.out _ hB2.out).mono ?_
  rintro e w3 ⟨rfl, rfl⟩
  have htn : ((i + m : Nat) : Int).toNat = i + m := by omega
  generalize i + m = im at *
  go_wp2_with (at_builtin; refine wpList_append_own_at _ rfl _ _ 27 rfl w.heap.size 41 i0 _ 2 16 Try.underlying27 hinf hz0 hz1 hz2 rfl (by decide) _ (i + ld) _ rfl o2.out ad (la - im) _ dropped rfl hlen9.out (hsrc.out _ hB2.out) hone.out hmax2 (by omega) hz2' ?_; intro v4 w4 hown4 hgrow4 _ hblk4)
  have hB4 := Lib.hid (hB2.out.grown hgrow4 hz2' (fun j hj => (o2.out.lt j hj).1))
  have o4 := Lib.hid (hres.out _ _ hown4)
  clear hgrow4 hblk4 hown4
  go_wp2_with fail
  go_ret
  exact ⟨_, rfl, o4.out, hB4.out⟩
end Go.Proofs.Ytdpnkojchimmfaa
