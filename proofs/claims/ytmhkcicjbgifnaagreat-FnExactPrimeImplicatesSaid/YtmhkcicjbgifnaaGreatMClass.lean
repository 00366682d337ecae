/- Walks of the classical semantics: codes, models as a set of rows, values, tables; of the program and of the reference. -/
import Derived.Test.YtmhkcicjbgifnaaGreatMRelMathBM

namespace Go.Proofs.YtmhkcicjbgifnaaGreat
open Go.RowKit Go.Deep

theorem plainCode1_pred (ss : List Sl) (w : World) (h : ∀ s ∈ ss, Nodes w (slV s) s.2) : Pred Tryz.prog 39 #[] slV ss (fun s => !plainB s.2) w := by
  intro W s hs hb hsz
  have hn := Lib.hid ((h s hs).below hb (Nat.le_refl _))
  obtain ⟨⟨a, n, c⟩, ns⟩ := s
  unfold slV at *
  show Calls Tryz.prog 39 #[.slice a n c] W _
  go_enter Tryz.func39, Tryz.ntmps39
  go_wp2_with fail
  refine (isPlain_any _ _ _ hn.out).mono ?_
  rintro e w' ⟨rfl, hb'⟩
  go_wp2_with fail
  go_ret
  exact ⟨rfl, hb'⟩

theorem all_forms (ss : List Sl) : (ss.all fun s => formB s.2) = (ss.map (·.2)).all formB := by rw [List.all_map]; rfl
theorem any_plains (ss : List Sl) : (ss.any fun s => !plainB s.2) = !((ss.map (·.2)).all plainB) := by
  have h := not_any ss (fun s => plainB s.2)
  rw [List.all_map]
  show _ = !(ss.all fun s => plainB s.2)
  rw [← h, Bool.not_not]

theorem plainCode_any (v : Value) (ss : List Sl) (w : World) (h : Slices w v ss) (hs : ∀ s ∈ ss, Nodes w (slV s) s.2) :
    Calls Tryz.prog 20 #[v] w fun e w' => e = .returned (.int .i64 (codeP (ss.map (·.2)))) ∧ Below w.heap.size w w' := by
  have h1 := Lib.hid (areFormulas_any v ss w h hs)
  have heg := Lib.hid (enters_of Tryz.func39 (by kernel_rfl) rfl)
  have h2 := Lib.hid (fun w1 (hb : Below w.heap.size w w1) => containsFuncS_any 39 #[] heg.out v ss _ w1 (h.below hb (Nat.le_refl _)) (plainCode1_pred ss w1 fun s hs' => (hs s hs').below hb (Nat.le_refl _)))
  have e1 := Lib.hid (all_forms ss)
  have e2 := Lib.hid (any_plains ss)
  clear h hs
  rcases codeP_cases (ss.map (·.2)) with ⟨h3, h4⟩ | ⟨h3, h5, h4⟩ | ⟨h3, h5, h4⟩
  · have hc := Lib.hid h4
    have hf := Lib.hid h3
    clear h3 h4
    go_enter Tryz.func20, Tryz.ntmps20
    go_wp2_with fail
    refine h1.out.mono ?_
    rintro e w1 ⟨rfl, b1⟩
    rw [e1.out, hf.out]
    go_wp2_with fail
    go_ret
    exact ⟨ret_int hc.out.symm, b1⟩
  all_goals
    have hc := Lib.hid h4
    have hf := Lib.hid h3
    have hp := Lib.hid h5
    clear h3 h4 h5
    go_enter Tryz.func20, Tryz.ntmps20
    go_wp2_with fail
    refine h1.out.mono ?_
    rintro e w1 ⟨rfl, b1⟩
    rw [e1.out, hf.out]
    go_wp2_with fail
    refine (h2.out _ b1).mono ?_
    rintro e w2 ⟨rfl, b2⟩
    rw [e2.out, hp.out]
    go_wp2_with fail
    go_ret
    exact ⟨ret_int hc.out.symm, b1.trans (b2.mono b1.size)⟩

/-- At one formula, in the world in which its list was just made. -/
theorem plainCode_one (w : World) (a : Option Addr) (n c : Nat) (ns : List Nd) (t : TypeId) (h : Nodes w (.slice a n c) ns) :
    Calls Tryz.prog 20 #[.slice (some ⟨w.heap.size, 0, none⟩) 1 1] (w.alloc (.cells #[.slice a n c] t)) fun e w' => e = .returned (.int .i64 (codeP [ns])) ∧ Below w.heap.size w w' := by
  have hba := (Below.refl w.heap.size w).alloc (Nat.le_refl _) (.cells #[.slice a n c] t)
  refine (plainCode_any _ [((a, n, c), ns)] _ (slices_one _ _ _ _ _ _) ?_).mono ?_
  · intro s hs
    rcases List.mem_cons.1 hs with rfl | hs
    · exact h.below hba (Nat.le_refl _)
    · cases hs
  · rintro e w' ⟨rfl, hb⟩
    exact ⟨rfl, hba.trans (hb.mono hba.size)⟩

set_option maxHeartbeats 800000 in
theorem l04Code_any (v : Value) (ss : List Sl) (w : World) (h : Slices w v ss) (hs : ∀ s ∈ ss, Nodes w (slV s) s.2) :
    Calls Tryz.prog 16 #[v] w fun e w' => e = .returned (.int .i64 (codeP (ss.map (·.2)))) ∧ w = w' := by
  obtain ⟨hm, a, c, b, o, rfl, hc, h0, hcell⟩ := h.opened
  unfold maxLen at hm
  have hs := Lib.hid hs
  clear h
  have hbad := Lib.hid (show ∀ (k : Nat) (s : Sl), ss[k]? = some s → formB s.2 = false → codeP (ss.map (·.2)) = 1 from fun k s hk hf => by
    have : (ss.map (·.2)).all formB = false := by rw [← all_forms]; exact all_bad (p := fun s : Sl => formB s.2) hk hf
    unfold codeP; rw [this]; rfl)
  have hmod := Lib.hid (show (∀ (i : Nat) (s : Sl), i < ss.length → ss[i]? = some s → formB s.2 = true) → ∀ (k : Nat) (s : Sl), ss[k]? = some s → plainB s.2 = false → codeP (ss.map (·.2)) = 5 from fun hall k s hk hf => by
    have h1 : (ss.map (·.2)).all formB = true := by rw [← all_forms]; exact all_good (p := fun s : Sl => formB s.2) hall
    have h2 : (ss.map (·.2)).all plainB = false := by rw [List.all_map]; exact all_bad (p := fun s : Sl => plainB s.2) hk hf
    unfold codeP; rw [h1, h2]; rfl)
  have hgood := Lib.hid (show (∀ (i : Nat) (s : Sl), i < ss.length → ss[i]? = some s → formB s.2 = true) → (∀ (i : Nat) (s : Sl), i < ss.length → ss[i]? = some s → plainB s.2 = true) → codeP (ss.map (·.2)) = 0 from fun hall hall2 => by
    have h1 : (ss.map (·.2)).all formB = true := by rw [← all_forms]; exact all_good (p := fun s : Sl => formB s.2) hall
    have h2 : (ss.map (·.2)).all plainB = true := by rw [List.all_map]; exact all_good (p := fun s : Sl => plainB s.2) hall2
    unfold codeP; rw [h1, h2]; rfl)
  rcases h0 with h0 | ⟨h0, rfl⟩
  all_goals
    go_enter Tryz.func16, Tryz.ntmps16
    go_wp2_with fail
    go_loop [3] (fun i => ∃ k : Nat, k ≤ ss.length ∧ i = .int .i64 k ∧ Hid (∀ (i : Nat) (s : Sl), i < k → ss[i]? = some s → formB s.2 = true)) (fun i => ss.length - (intOf i).toNat)
    case atStart => exact ⟨0, Nat.zero_le _, rfl, fun j x hj => by omega⟩
    case round =>
      obtain ⟨k, hk, rfl, hall⟩ := hrel
      by_cases hlt : k < ss.length
      · all_goals try (exfalso; omega)
        all_goals
          obtain ⟨xa, xn, xc, xs, hx, hcx⟩ := hcell.out k hlt
          have hnx := Lib.hid (hs.out _ (List.mem_of_getElem? hx))
          have hx := Lib.hid hx
          cases hin : formB xs
          · have hf := Lib.hid (hbad.out k _ hx.out hin)
            have hi := Lib.hid hin
            clear hin
            go_wp2_with fail
            refine (l02Is_any _ xs _ hnx.out).mono ?_
            rintro e w' ⟨rfl, rfl⟩
            rw [hi.out]
            go_wp2_with fail
            go_ret
            exact ⟨ret_int hf.out.symm, rfl⟩
          · have hi := Lib.hid hin
            clear hin
            go_wp2_with fail
            refine (l02Is_any _ xs _ hnx.out).mono ?_
            rintro e w' ⟨rfl, rfl⟩
            rw [hi.out]
            go_wp2_with fail
            go_round
            case rel =>
              refine ⟨k + 1, by omega, by go_num, fun i z hi' hz => ?_⟩
              rcases Nat.lt_or_ge i k with h2 | h2
              · exact hall.out i z h2 hz
              · obtain rfl : i = k := by omega
                rw [hx.out] at hz
                obtain rfl := Option.some.inj hz
                exact hi.out
            case measure => simp [intOf]; omega
      · obtain rfl : k = ss.length := by omega
        go_wp2_with fail
        go_loop [4] (fun i => ∃ k : Nat, k ≤ ss.length ∧ i = .int .i64 k ∧ Hid (∀ (i : Nat) (s : Sl), i < k → ss[i]? = some s → plainB s.2 = true)) (fun i => ss.length - (intOf i).toNat)
        case atStart => exact ⟨0, Nat.zero_le _, rfl, fun j x hj => by omega⟩
        case round =>
          obtain ⟨k, hk, rfl, hall2⟩ := hrel
          by_cases hlt : k < ss.length
          · all_goals try (exfalso; omega)
            all_goals
              obtain ⟨xa, xn, xc, xs, hx, hcx⟩ := hcell.out k hlt
              have hnx := Lib.hid (hs.out _ (List.mem_of_getElem? hx))
              have hx := Lib.hid hx
              cases hin : plainB xs
              · have hf := Lib.hid (hmod.out hall.out k _ hx.out hin)
                have hi := Lib.hid hin
                clear hin
                go_wp2_with fail
                refine (l02Plain_any _ xs _ hnx.out).mono ?_
                rintro e w' ⟨rfl, rfl⟩
                rw [hi.out]
                go_wp2_with fail
                go_ret
                exact ⟨ret_int hf.out.symm, rfl⟩
              · have hi := Lib.hid hin
                clear hin
                go_wp2_with fail
                refine (l02Plain_any _ xs _ hnx.out).mono ?_
                rintro e w' ⟨rfl, rfl⟩
                rw [hi.out]
                go_wp2_with fail
                go_round
                case rel =>
                  refine ⟨k + 1, by omega, by go_num, fun i z hi' hz => ?_⟩
                  rcases Nat.lt_or_ge i k with h2 | h2
                  · exact hall2.out i z h2 hz
                  · obtain rfl : i = k := by omega
                    rw [hx.out] at hz
                    obtain rfl := Option.some.inj hz
                    exact hi.out
                case measure => simp [intOf]; omega
          · obtain rfl : k = ss.length := by omega
            have hf := Lib.hid (hgood.out hall.out hall2.out)
            go_wp2_with fail
            go_ret
            exact ⟨ret_int hf.out.symm, rfl⟩

theorem l04Code_one (w : World) (a : Option Addr) (n c : Nat) (ns : List Nd) (t : TypeId) (h : Nodes w (.slice a n c) ns) :
    Calls Tryz.prog 16 #[.slice (some ⟨w.heap.size, 0, none⟩) 1 1] (w.alloc (.cells #[.slice a n c] t)) fun e w' => e = .returned (.int .i64 (codeP [ns])) ∧ Below w.heap.size w w' := by
  have hba := (Below.refl w.heap.size w).alloc (Nat.le_refl _) (.cells #[.slice a n c] t)
  refine (l04Code_any _ [((a, n, c), ns)] _ (slices_one _ _ _ _ _ _) ?_).mono ?_
  · intro s hs
    rcases List.mem_cons.1 hs with rfl | hs
    · exact h.below hba (Nat.le_refl _)
    · cases hs
  · rintro e w' ⟨rfl, rfl⟩
    exact ⟨rfl, hba⟩

theorem row_pow (k : Nat) (h : k ≤ 63) : 1 ≤ (2 : Int) ^ k ∧ (2 : Int) ^ k ≤ 9223372036854775808 := by
  have hq : (2 : Nat) ^ k ≤ 2 ^ 63 := Nat.pow_le_pow_right (by omega) h
  have hp : 1 ≤ (2 : Nat) ^ k := Nat.pow_pos (by omega)
  have e : ((2 : Int) ^ k) = ((2 ^ k : Nat) : Int) := by simp
  omega

theorem row_or (p : Nat → Bool) (k : Nat) (h : k ≤ 63) : bits BinOp.or IntKind.u64 ((rowsOf p k : Nat) : Int) (2 ^ k) = ((rowsOf p k ||| 2 ^ k : Nat) : Int) := by
  have h1 := rowsOf_lt p k
  have hq : (2 : Nat) ^ k ≤ 2 ^ 63 := Nat.pow_le_pow_right (by omega) h
  have e : ((2 : Int) ^ k) = ((2 ^ k : Nat) : Int) := by simp
  rw [e, u64_or_nat _ _ (by omega) (by omega)]

set_option maxHeartbeats 800000 in
theorem variableRows_any (v : Int) (w : World) (h0 : 0 ≤ v) (h1 : v ≤ 5) :
    Calls Tryz.prog 49 #[.int .i64 v] w fun e w' => e = .returned (.int .u64 (rowsOf (fun i => i.testBit v.toNat) 64 : Nat)) ∧ w = w' := by
  have hor := Lib.hid (row_or (fun i => i.testBit v.toNat))
  go_enter Tryz.func49, Tryz.ntmps49
  go_wp2_with fail
  go_loop [3, 5] (fun s i => ∃ (k : Nat) (y : Int), k ≤ 64 ∧ i = .int .i64 k ∧ s = .int .u64 y ∧ Hid (y = (rowsOf (fun i => i.testBit v.toNat) k : Nat))) (fun _ i => 64 - (intOf i).toNat)
  case atStart => exact ⟨0, 0, by omega, rfl, rfl, rfl⟩
  case round =>
    obtain ⟨k, y, hk, rfl, rfl, hy⟩ := hrel
    by_cases hlt : k < 64
    · obtain ⟨hp1, hp2⟩ := row_pow k (by omega)
      cases hh : hasB (k : Int) v
      · have hst := Lib.hid (show rowsOf (fun i => i.testBit v.toNat) (k + 1) = rowsOf (fun i => i.testBit v.toNat) k by
          have : k.testBit v.toNat = false := by simpa [hasB] using hh
          simp [rowsOf, this])
        have hhh := Lib.hid hh
        clear hh
        go_wp2_with fail
        refine (has_any _ _ (by omega) (by omega) h0 (by omega) _).mono ?_
        rintro e w' ⟨rfl, rfl⟩
        rw [hhh.out]
        go_wp2_with fail
        go_round
        case rel => exact ⟨k + 1, y, by omega, by go_num, rfl, by show _ = _; rw [hst.out, hy.out]⟩
        case measure => simp [intOf]; omega
      · have hst := Lib.hid (show ((rowsOf (fun i => i.testBit v.toNat) (k + 1) : Nat) : Int) = bits BinOp.or IntKind.u64 y (2 ^ k) by
          have : k.testBit v.toNat = true := by simpa [hasB] using hh
          rw [hy.out, hor.out k (by omega)]
          simp [rowsOf, this])
        have hhh := Lib.hid hh
        clear hh
        go_wp2_with fail
        refine (has_any _ _ (by omega) (by omega) h0 (by omega) _).mono ?_
        rintro e w' ⟨rfl, rfl⟩
        rw [hhh.out]
        go_wp2_with fail
        go_round
        case rel => exact ⟨k + 1, _, by omega, by go_num, rfl, by show _ = _; rw [hst.out]⟩
        case measure => simp [intOf]; omega
    · obtain rfl : k = 64 := by omega
      go_wp2_with fail
      go_ret
      exact ⟨ret_int hy.out, rfl⟩
end Go.Proofs.YtmhkcicjbgifnaaGreat
