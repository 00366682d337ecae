/- Point formulas: what is one, of the reference. -/
import Derived.Test.YtfedipeabbaccaaDoorPtForm
namespace Go.Proofs.YtfedipeabbaccaaDoor
open Go.RowKit Go.Deep

def partsP (x : Int) : Int := if inR x 0 8 then (arP x : Nat) else -1
def nodeP (n : Pt) : Bool := if n.1 = 0 ∨ n.1 = 1 then inR n.2.1 0 9 && inR n.2.2 0 9 else if n.1 = 2 then inR n.2.1 0 5 && inR n.2.2 0 9 else if n.1 = 7 ∨ n.1 = 8 then inR n.2.1 0 9 && decide (n.2.2 = 0) else decide (n.2.1 = 0) && decide (n.2.2 = 0)
theorem ptB_spec (n : Pt) : ptB n = (inR n.1 0 8 && nodeP n) := by
  obtain ⟨x, y, z⟩ := n
  unfold ptB nodeP
  rcases pt_cases x with (rfl | rfl) | rfl | (rfl | rfl) | h
  · simp [inR]
  · simp [inR]
  · simp [inR]
  · simp [inR]
  · simp [inR]
  · rw [if_neg (by show ¬ (x = 0 ∨ x = 1); omega), if_neg (by show ¬ (x = 2); omega), if_neg (by show ¬ (x = 7 ∨ x = 8); omega), if_neg (by show ¬ (x = 0 ∨ x = 1); omega), if_neg (by show ¬ (x = 2); omega), if_neg (by show ¬ (x = 7 ∨ x = 8); omega)]
    have : inR x 3 6 = inR x 0 8 := by
      rw [Bool.eq_iff_iff, inR_iff, inR_iff]; omega
    show (inR x 3 6 && _ && _) = _
    rw [this, Bool.and_assoc]
theorem nodeP_sees {x y z : Int} (h : x = 0 ∨ x = 1) : nodeP (x, y, z) = (inR y 0 9 && inR z 0 9) := by simp [nodeP, h]
theorem nodeP_val {y z : Int} : nodeP (2, y, z) = (inR y 0 5 && inR z 0 9) := by simp [nodeP]
theorem nodeP_quant {x y z : Int} (h : x = 7 ∨ x = 8) : nodeP (x, y, z) = (inR y 0 9 && decide (z = 0)) := by
  unfold nodeP
  rw [if_neg (by show ¬ (x = 0 ∨ x = 1); omega), if_neg (by show ¬ (x = 2); omega), if_pos h]
theorem nodeP_else {x y z : Int} (h : ¬ (x = 0 ∨ x = 1 ∨ x = 2 ∨ x = 7 ∨ x = 8)) : nodeP (x, y, z) = (decide (y = 0) && decide (z = 0)) := by
  unfold nodeP
  rw [if_neg (by show ¬ (x = 0 ∨ x = 1); omega), if_neg (by show ¬ (x = 2); omega), if_neg (by show ¬ (x = 7 ∨ x = 8); omega)]
theorem parts_cases (k : Int) : k = 0 ∨ k = 1 ∨ k = 2 ∨ k = 3 ∨ k = 4 ∨ k = 5 ∨ k = 6 ∨ k = 7 ∨ k = 8 ∨ (k < 0 ∨ 8 < k) := by omega

theorem l10Parts_any (k : Int) (w : World) :
    Calls Tryd.prog 50 #[.int .i64 k] w fun e w' => e = .returned (.int .i64 (partsP k)) ∧ w = w' := by
  rcases parts_cases k with rfl | rfl | rfl | rfl | rfl | rfl | rfl | rfl | rfl | h
  iterate 9
    · go_enter Tryd.func50, Tryd.ntmps50
      go_wp2_with fail
      go_ret
      exact ⟨rfl, rfl⟩
  · have hn := Lib.hid (show partsP k = -1 by unfold partsP; rw [if_neg (by rw [inR_iff]; omega)])
    have e0 : (k == 0) = false := by rw [beq_eq_false_iff_ne]; omega
    have e1 : (k == 1) = false := by rw [beq_eq_false_iff_ne]; omega
    have e2 : (k == 2) = false := by rw [beq_eq_false_iff_ne]; omega
    have e3 : (k == 3) = false := by rw [beq_eq_false_iff_ne]; omega
    have e4 : (k == 4) = false := by rw [beq_eq_false_iff_ne]; omega
    have e5 : (k == 5) = false := by rw [beq_eq_false_iff_ne]; omega
    have e6 : (k == 6) = false := by rw [beq_eq_false_iff_ne]; omega
    have e7 : (k == 7) = false := by rw [beq_eq_false_iff_ne]; omega
    have e8 : (k == 8) = false := by rw [beq_eq_false_iff_ne]; omega
    clear h
    go_enter Tryd.func50, Tryd.ntmps50
    go_wp2_with fail
    go_ret
    exact ⟨ret_int hn.out.symm, rfl⟩

set_option maxHeartbeats 2000000 in
theorem l10Node_any (x y z : Int) (w : World) :
    Calls Tryd.prog 51 #[.agg #[.int .i64 x, .int .i64 y, .int .i64 z]] w fun e w' => e = .returned (.bool (nodeP (x, y, z))) ∧ Below w.heap.size w w' := by
  have hba := (Below.refl w.heap.size w).alloc (Nat.le_refl _) (.cells #[.int .i64 x, .int .i64 y, .int .i64 z] 49)
  rcases pt_cases x with h | rfl | h | h
  · have hf := Lib.hid (nodeP_sees (y := y) (z := z) h)
    rcases h with rfl | rfl
    all_goals
      cases hy : inR y 0 9 <;> cases hz : inR z 0 9
      all_goals
        go_enter Tryd.func51, Tryd.ntmps51
        go_wp2_with fail
        go_quiet (first | (go_at_call 34; exact quiet_eq (l01In_any _ _ _ _)))
        go_wp2_with fail
        go_ret
        exact ⟨ret_bool (by rw [hf.out, hy, hz]; rfl), below_drewN hba _⟩
  · have hf := Lib.hid (nodeP_val (y := y) (z := z))
    cases hy : inR y 0 9 <;> cases hz : inR z 0 9 <;> cases hv : inR y 0 5
    all_goals
      go_enter Tryd.func51, Tryd.ntmps51
      go_wp2_with fail
      go_quiet (first | (go_at_call 34; exact quiet_eq (l01In_any _ _ _ _)))
      go_wp2_with fail
      refine (l01In_any _ _ _ _).mono ?_
      rintro e w' ⟨rfl, rfl⟩
      go_wp2_with fail
      go_ret
      exact ⟨ret_bool (by rw [hf.out, hv, hz]; rfl), below_drewN hba _⟩
  · have hf := Lib.hid (nodeP_quant (y := y) (z := z) h)
    rcases h with rfl | rfl
    all_goals
      have hzz : (z == 0) = decide (z = 0) := by by_cases hz : z = 0 <;> simp [hz]
      cases hy : inR y 0 9 <;> cases hz : inR z 0 9 <;> cases hzd : decide (z = 0)
      all_goals
        rw [hzd] at hzz
        have hzd := Lib.hid hzd
        go_enter Tryd.func51, Tryd.ntmps51
        go_wp2_with fail
        go_quiet (first | (go_at_call 34; exact quiet_eq (l01In_any _ _ _ _)))
        go_wp2_with fail
        go_ret
        exact ⟨ret_bool (by rw [hf.out, hy, hzd.out]; rfl), below_drewN hba _⟩
  · have hf := Lib.hid (nodeP_else (y := y) (z := z) h)
    have e0 : (x == 0) = false := by rw [beq_eq_false_iff_ne]; omega
    have e1 : (x == 1) = false := by rw [beq_eq_false_iff_ne]; omega
    have e2 : (x == 2) = false := by rw [beq_eq_false_iff_ne]; omega
    have e7 : (x == 7) = false := by rw [beq_eq_false_iff_ne]; omega
    have e8 : (x == 8) = false := by rw [beq_eq_false_iff_ne]; omega
    clear h
    have hzz : (z == 0) = decide (z = 0) := by by_cases hz : z = 0 <;> simp [hz]
    have hyy : (y == 0) = decide (y = 0) := by by_cases hy : y = 0 <;> simp [hy]
    cases hy : inR y 0 9 <;> cases hz : inR z 0 9 <;> cases hzd : decide (z = 0) <;> cases hyd : decide (y = 0)
    all_goals
      rw [hzd] at hzz
      rw [hyd] at hyy
      have hzd := Lib.hid hzd
      have hyd := Lib.hid hyd
      go_enter Tryd.func51, Tryd.ntmps51
      go_wp2_with fail
      go_quiet (first | (go_at_call 34; exact quiet_eq (l01In_any _ _ _ _)))
      go_wp2_with fail
      go_ret
      exact ⟨ret_bool (by rw [hf.out, hyd.out, hzd.out]; rfl), below_drewN hba _⟩

theorem pEnd_end {ns : List Pt} {i : Nat} (h : ns.length ≤ i) : pEnd ns i = -1 := partEnd_none (i := i) (j := i) (op := 1) rfl (by rw [List.length_map]; exact h) (by omega)
theorem pEnd_leaf {ns : List Pt} {i : Nat} {x y z : Int} (hx : ns[i]? = some (x, y, z)) (h : arP x = 0) : pEnd ns i = ((i + 1 : Nat) : Int) := by
  have h1 := skipP_next (op := 0) hx
  rw [h] at h1
  exact partEnd_some h1 (by rw [List.length_map]; exact (List.getElem?_eq_some_iff.1 hx).1)
theorem pEnd_un {ns : List Pt} {i : Nat} {x y z : Int} (hx : ns[i]? = some (x, y, z)) (h : arP x = 1) : pEnd ns i = pEnd ns (i + 1) := by
  have h1 := skipP_next (op := 0) hx
  rw [h] at h1
  unfold pEnd partEndL
  rw [h1]
theorem pEnd_bin {ns : List Pt} {i : Nat} {x y z : Int} (hx : ns[i]? = some (x, y, z)) (h : arP x = 2) : (pEnd ns (i + 1) = -1 ∧ pEnd ns i = -1) ∨ ∃ j : Nat, i + 1 < j ∧ j ≤ ns.length ∧ pEnd ns (i + 1) = (j : Nat) ∧ pEnd ns i = pEnd ns j := by
  have h1 := skipP_next (op := 0) hx
  rw [h, show 0 + 2 = 1 + 1 from rfl, skip_add ((ns.map mp).drop (i + 1)) 1 1] at h1
  cases hs : skip ((ns.map mp).drop (i + 1)) 1 with
  | none =>
    left
    rw [hs] at h1
    unfold pEnd partEndL
    rw [hs, h1]
    exact ⟨rfl, rfl⟩
  | some r =>
    right
    rw [hs] at h1
    obtain ⟨p, hp, hpl⟩ := skip_suffix _ _ _ hs
    have hl := congrArg List.length hp
    rw [List.length_drop, List.length_append, List.length_map] at hl
    have hi : i < ns.length := (List.getElem?_eq_some_iff.1 hx).1
    have hdrop : (ns.map mp).drop (i + 1 + p.length) = r := by rw [← List.drop_drop, hp, List.drop_left]
    refine ⟨i + 1 + p.length, by omega, by omega, ?_, ?_⟩
    · unfold pEnd partEndL
      rw [hs]
      simp only [List.length_map]
      omega
    · unfold pEnd partEndL
      rw [h1, hdrop]
      rfl

set_option maxHeartbeats 2000000 in
theorem l10End_any (v : Value) (ns : List Pt) (w : World) (h : Points w v ns) (hall : ns.all ptB = true) (hn : ns.length ≤ 1000) :
    ∀ (m i : Nat), ns.length - i ≤ m → i ≤ ns.length → Calls Tryd.prog 52 #[v, .int .i64 i] w fun e w' => e = .returned (.int .i64 (pEnd ns i)) ∧ w = w' := by
  obtain ⟨hm, a, c, b, o, rfl, hc, h0, hcell⟩ := h.opened
  have hall := Lib.hid hall
  clear h hm
  intro m
  induction m with
  | zero =>
    intro i h1 h2
    obtain rfl : i = ns.length := by omega
    have hf := Lib.hid (pEnd_end (Nat.le_refl ns.length))
    go_enter Tryd.func52, Tryd.ntmps52
    go_wp2_with fail
    go_ret
    exact ⟨ret_int hf.out.symm, rfl⟩
  | succ m ih =>
    intro i h1 h2
    by_cases hlt : i < ns.length
    · have ihh := Lib.hid ih
      clear ih
      obtain rfl : a = some ⟨b, o, none⟩ := by rcases h0 with h0 | ⟨_, h0⟩; · omega
                                               exact h0
      obtain ⟨x, y, z, hx, hcx, hcy, hcz⟩ := hcell.out i hlt
      have hpb := List.all_eq_true.1 hall.out (x, y, z) (List.mem_of_getElem? hx)
      rw [ptB_spec] at hpb
      have hin := ((Bool.and_eq_true _ _).mp hpb).1
      have hpp : partsP x = (arP x : Nat) := by unfold partsP; rw [if_pos hin]
      have hcall := Lib.hid (fun w' => show Calls Tryd.prog 50 #[.int .i64 x] w' fun e w'' => e = .returned (.int .i64 (arP x : Nat)) ∧ w' = w'' from by rw [← hpp]; exact l10Parts_any x w')
      clear hpb hin hpp
      have har : arP x = 0 ∨ arP x = 1 ∨ arP x = 2 := by have := arP_le x; omega
      rcases har with har | har | har
      · have hf := Lib.hid (pEnd_leaf hx har)
        rw [har] at hcall
        clear hx har
        go_enter Tryd.func52, Tryd.ntmps52
        go_wp2_with fail
        refine (hcall.out _).mono ?_
        rintro e w' ⟨rfl, rfl⟩
        go_wp2_with fail
        refine wp_loop_rounds 1 ?_
        rw [rounds_succ]
        go_wp2_with fail
        go_ret
        exact ⟨ret_int (by rw [hf.out]; go_num), rfl⟩
      · have hf := Lib.hid (pEnd_un hx har)
        rw [har] at hcall
        clear hx har
        have hrec := Lib.hid (ihh.out (i + 1) (by omega) (by omega))
        rw [show (((i + 1 : Nat)) : Int) = (i : Int) + 1 by omega] at hrec
        go_enter Tryd.func52, Tryd.ntmps52
        go_wp2_with fail
        refine (hcall.out _).mono ?_
        rintro e w' ⟨rfl, rfl⟩
        go_wp2_with fail
        refine wp_loop_rounds 2 ?_
        rw [rounds_succ]
        go_wp2_with fail
        refine hrec.out.mono ?_
        rintro e w' ⟨rfl, rfl⟩
        go_wp2_with fail
        rw [rounds_succ]
        go_wp2_with fail
        go_ret
        exact ⟨ret_int hf.out.symm, rfl⟩
      · have hf := pEnd_bin hx har
        rw [har] at hcall
        clear hx har
        have hrec := Lib.hid (ihh.out (i + 1) (by omega) (by omega))
        rw [show (((i + 1 : Nat)) : Int) = (i : Int) + 1 by omega] at hrec
        rcases hf with ⟨hf1, hf2⟩ | ⟨j, hj1, hj2, hf1, hf2⟩
        · rw [hf1] at hrec
          replace hf2 := Lib.hid hf2
          clear hf1
          go_enter Tryd.func52, Tryd.ntmps52
          go_wp2_with fail
          refine (hcall.out _).mono ?_
          rintro e w' ⟨rfl, rfl⟩
          go_wp2_with fail
          refine wp_loop_rounds 2 ?_
          rw [rounds_succ]
          go_wp2_with fail
          refine hrec.out.mono ?_
          rintro e w' ⟨rfl, rfl⟩
          go_wp2_with fail
          rw [rounds_succ]
          go_wp2_with fail
          go_ret
          exact ⟨ret_int hf2.out.symm, rfl⟩
        · rw [hf1] at hrec
          replace hf2 := Lib.hid hf2
          clear hf1
          have hrec2 := Lib.hid (ihh.out j (by omega) hj2)
          go_enter Tryd.func52, Tryd.ntmps52
          go_wp2_with fail
          refine (hcall.out _).mono ?_
          rintro e w' ⟨rfl, rfl⟩
          go_wp2_with fail
          refine wp_loop_rounds 3 ?_
          rw [rounds_succ]
          go_wp2_with fail
          refine hrec.out.mono ?_
          rintro e w' ⟨rfl, rfl⟩
          go_wp2_with fail
          rw [rounds_succ]
          go_wp2_with fail
          refine hrec2.out.mono ?_
          rintro e w' ⟨rfl, rfl⟩
          go_wp2_with fail
          rw [rounds_succ]
          go_wp2_with fail
          go_ret
          exact ⟨ret_int hf2.out.symm, rfl⟩
    · obtain rfl : i = ns.length := by omega
      have hf := Lib.hid (pEnd_end (Nat.le_refl ns.length))
      clear ih
      go_enter Tryd.func52, Tryd.ntmps52
      go_wp2_with fail
      go_ret
      exact ⟨ret_int hf.out.symm, rfl⟩

set_option maxHeartbeats 2000000 in
theorem specIsPointFormula_any (v : Value) (ns : List Pt) (w : World) (h : Points w v ns) :
    Calls Tryd.prog 27 #[v] w fun e w' => e = .returned (.bool (ptFormB ns)) ∧ Below w.heap.size w w' := by
  have hv := Lib.hid h
  obtain ⟨hm, a, c, b, o, rfl, hc, h0, hcell⟩ := h.opened
  unfold maxLen at hm
  clear h
  by_cases h1 : ns.length ≤ 0
  · have hf := Lib.hid (pf_empty h1)
    have hz : ((ns.length : Int) == 0) = true := by rw [beq_iff_eq]; omega
    clear h0 h1
    go_enter Tryd.func27, Tryd.ntmps27
    go_wp2_with fail
    go_ret
    exact ⟨ret_bool hf.out.symm, Below.refl _ _⟩
  have hz : ((ns.length : Int) == 0) = false := by rw [beq_eq_false_iff_ne]; omega
  obtain rfl : a = some ⟨b, o, none⟩ := by rcases h0 with h0 | ⟨_, h0⟩; · omega
                                           exact h0
  by_cases h2 : 120 < ns.length
  · have hf := Lib.hid (pf_long h2)
    go_enter Tryd.func27, Tryd.ntmps27
    go_wp2_with fail
    go_ret
    exact ⟨ret_bool hf.out.symm, Below.refl _ _⟩
  clear h0
  go_enter Tryd.func27, Tryd.ntmps27
  go_wp2_with fail
  go_loopw [3] (fun i wr => ∃ k : Nat, k ≤ ns.length ∧ i = .int .i64 k ∧ Hid (∀ (j : Nat) (p : Pt), j < k → ns[j]? = some p → ptB p = true) ∧ Below w.heap.size w wr) (fun i _ => ns.length - (intOf i).toNat)
  case atStart => exact ⟨0, Nat.zero_le _, rfl, fun j p hj => by omega, Below.refl _ _⟩
  case round =>
    clear hz
    obtain ⟨k, hk, rfl, hgood, hb⟩ := hrel
    by_cases hlt : k < ns.length
    · obtain ⟨x, y, z, hx, hcx, hcy, hcz⟩ := hcell.out k hlt
      have lx := World.block_lt_of_cell? w _ hcx
      have hcx := (hb.cell (p := ⟨b, o + k * 3, none⟩) lx).trans hcx
      have hcy := (hb.cell (p := ⟨b, o + k * 3 + 1, none⟩) lx).trans hcy
      have hcz := (hb.cell (p := ⟨b, o + k * 3 + 2, none⟩) lx).trans hcz
      have hx := Lib.hid hx
      have hsp := ptB_spec (x, y, z)
      cases hin : inR x 0 8
      · have hpn : partsP x = -1 := by unfold partsP; rw [hin]; rfl
        have hbad : ptB (x, y, z) = false := by rw [hsp]; show (inR x 0 8 && _) = false; rw [hin]; rfl
        have hf := Lib.hid (pf_bad (all_bad hx.out hbad))
        have hcall := Lib.hid (fun w' => show Calls Tryd.prog 50 #[.int .i64 x] w' fun e w'' => e = .returned (.int .i64 (-1)) ∧ w' = w'' from by rw [← hpn]; exact l10Parts_any x w')
        clear hsp hin hpn hbad
        go_wp2_with fail
        refine (hcall.out _).mono ?_
        rintro e w' ⟨rfl, rfl⟩
        go_wp2_with fail
        go_ret
        exact ⟨ret_bool hf.out.symm, hb⟩
      · have hpn : partsP x = (arP x : Nat) := by unfold partsP; rw [if_pos hin]
        have hcall := Lib.hid (fun w' => show Calls Tryd.prog 50 #[.int .i64 x] w' fun e w'' => e = .returned (.int .i64 (arP x : Nat)) ∧ w' = w'' from by rw [← hpn]; exact l10Parts_any x w')
        have hnn := Lib.hid (show ptB (x, y, z) = nodeP (x, y, z) by rw [hsp]; show (inR x 0 8 && _) = _; rw [hin]; rfl)
        clear hsp hin hpn
        have harn : ¬ ((arP x : Nat) : Int) < 0 := by omega
        generalize arP x = A at *
        cases hnp : nodeP (x, y, z)
        · have hf := Lib.hid (pf_bad (all_bad hx.out (hnn.out.trans hnp)))
          have hnph := Lib.hid hnp
          clear hnp
          go_wp2_with fail
          refine (hcall.out _).mono ?_
          rintro e w' ⟨rfl, rfl⟩
          go_wp2_with fail
          refine (l10Node_any _ _ _ _).mono ?_
          rintro e w' ⟨rfl, b2⟩
          rw [hnph.out]
          have B2 := keep_step b2 hb
          go_wp2_with fail
          go_ret
          exact ⟨ret_bool hf.out.symm, B2⟩
        · have hnph := Lib.hid hnp
          clear hnp
          go_wp2_with fail
          refine (hcall.out _).mono ?_
          rintro e w' ⟨rfl, rfl⟩
          go_wp2_with fail
          refine (l10Node_any _ _ _ _).mono ?_
          rintro e w' ⟨rfl, b2⟩
          rw [hnph.out]
          have B2 := keep_step b2 hb
          go_wp2_with fail
          go_roundw
          case rel =>
            refine ⟨k + 1, by omega, by go_num, fun j p hj hp => ?_, B2⟩
            rcases Nat.lt_or_ge j k with h3 | h3
            · exact hgood.out j p h3 hp
            · obtain rfl : j = k := by omega
              rw [hx.out] at hp
              obtain rfl := Option.some.inj hp
              rw [hnn.out, hnph.out]
          case measure => simp [intOf]; omega
    · obtain rfl : k = ns.length := by omega
      have hall := all_good hgood.out
      have hf := Lib.hid (pf_rest (by omega) (by omega) hall)
      have hcall := Lib.hid (l10End_any _ ns wr (hv.out.below hb (Nat.le_refl _)) hall (by omega) ns.length 0 (by omega) (by omega))
      clear hall
      go_wp2_with fail
      refine hcall.out.mono ?_
      rintro e w' ⟨rfl, rfl⟩
      go_wp2_with fail
      go_ret
      exact ⟨ret_bool hf.out.symm, hb⟩
end Go.Proofs.YtfedipeabbaccaaDoor
