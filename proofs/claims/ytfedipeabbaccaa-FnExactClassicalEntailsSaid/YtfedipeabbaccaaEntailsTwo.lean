/- ClassicalEntails, of both: the walks. -/
import Derived.Test.YtfedipeabbaccaaEntails
namespace Go.Proofs.Ytfedipeabbaccaa
open Go.RowKit Go.Deep

theorem clip_any (v : Value) (ss : List Sl) (w : World) (h : Slices w v ss) :
    Calls Try.prog 63 #[v] w fun e w' => (∃ b, e = .returned (.slice b ss.length ss.length) ∧ Slices w (.slice b ss.length ss.length) ss) ∧ w = w' := by
  have hS := Lib.hid h
  obtain ⟨_, hm, a, c, b, o, rfl, hc, ha, hcell⟩ := h
  have hS2 := Lib.hid (show Slices w (.slice a ss.length ss.length) ss from ⟨by simp, hm, a, ss.length, b, o, rfl, Nat.le_refl _, ha, hcell⟩)
  unfold maxLen at hm
  clear ha hcell
  generalize hn : ss.length = n at *
  have hn := Lib.hid hn
  cases a with
  | none =>
    go_enter Try.func63, Try.ntmps63
    go_wp2_with fail
    go_ret
    exact ⟨⟨none, rfl, hS2.out⟩, rfl⟩
  | some a =>
    go_enter Try.func63, Try.ntmps63
    go_wp2_with fail
    go_ret
    exact ⟨⟨some a, rfl, hS2.out⟩, rfl⟩

set_option maxHeartbeats 1000000 in
theorem entails_any (v : Value) (Is : List (List Nd)) (u : Value) (ns : List Nd) (w : World) (h : Fs w v Is) (hu : Nodes w u ns) (h0 : codeP (Is ++ [ns]) = 0) :
    Calls Try.prog 64 #[v, u] w fun e w' => e = .returned (.bool (entB Is ns)) ∧ w = w' := by
  obtain ⟨a, c, b, o, rfl, hc, hm, ha, hcell⟩ := h.cells
  have hpl := Lib.hid (plain_all h0)
  have hent := Lib.hid (premR_ent Is ns)
  have hbd := Lib.hid premR_bounds
  have hnil := Lib.hid (premR_nil Is)
  have hah := Lib.hid ha
  unfold maxLen at hm
  obtain ⟨q1, q2, q3, q4⟩ := hpl.out ns (by simp)
  have hlast := Lib.hid (modelsOf_any (treeOf ns) u w q1 q3 (by rw [q2]; exact hu) (by rw [q2]; omega))
  clear h hu h0 ha q1 q2 q3 q4
  go_enter Try.func64, Try.ntmps64
  go_wp2_with fail
  go_loop [5, 10] (fun m i => ∃ (k : Nat) (M : Int), k ≤ Is.length ∧ i = .int .i64 k ∧ m = .int .u64 M ∧ Hid (M = premR (Is.take k))) (fun _ i => Is.length - (intOf i).toNat)
  case atStart => exact ⟨0, 18446744073709551615, Nat.zero_le _, rfl, rfl, hnil.out.symm⟩
  case round =>
    obtain ⟨k, M, hk, rfl, rfl, hM⟩ := hrel
    by_cases hlt : k < Is.length
    · obtain rfl := hah.out (by omega)
      obtain ⟨vI, I, hI, hcI, hnI⟩ := hcell.out k hlt
      obtain ⟨q1, q2, q3, q4⟩ := hpl.out I (List.mem_append_left _ (List.mem_of_getElem? hI))
      have hcall := Lib.hid (modelsOf_any (treeOf I) vI w q1 q3 (by rw [q2]; exact hnI) (by rw [q2]; omega))
      obtain ⟨a1, c1, rfl⟩ := hnI.shape
      have hst := Lib.hid (premR_succ hI)
      clear hI hnI q1 q2 q3 q4
      generalize rowsT (treeOf I) = R at *
      generalize I.length = m at *
      go_wp2_with fail
      refine hcall.out.mono ?_
      rintro e w' ⟨rfl, rfl⟩
      go_wp2_with fail
      go_round
      case rel => exact ⟨k + 1, _, by omega, by go_num, rfl, by rw [hM.out]; exact hst.out⟩
      case measure => simp [intOf]; omega
    · obtain rfl : k = Is.length := by omega
      have hM2 := hM.out
      rw [List.take_length] at hM2
      have hfin := Lib.hid (show (bits BinOp.andNot IntKind.u64 M (rowsT (treeOf ns)) == 0) = entB Is ns by rw [hM2]; exact hent.out)
      clear hM2
      generalize rowsT (treeOf ns) = R at *
      go_wp2_with fail
      refine hlast.out.mono ?_
      rintro e w' ⟨rfl, rfl⟩
      go_wp2_with fail
      go_ret
      exact ⟨ret_bool hfin.out, rfl⟩

set_option maxHeartbeats 2000000 in
theorem l04Entails_any (v : Value) (Is : List (List Nd)) (u : Value) (ns : List Nd) (w : World) (h : Fs w v Is) (hu : Nodes w u ns) (h0 : codeP (Is ++ [ns]) = 0) :
    Calls Try.prog 60 #[v, u] w fun e w' => e = .returned (.bool (entB Is ns)) ∧ w = w' := by
  obtain ⟨a, c, b, o, rfl, hc, hm, ha, hcell⟩ := h.cells
  have hpl := Lib.hid (plain_all h0)
  have hah := Lib.hid ha
  unfold maxLen at hm
  obtain ⟨q1, q2, q3, q4⟩ := hpl.out ns (by simp)
  have hlast := Lib.hid (fun (r : Nat) (hr : r ≤ 63) => l04Value_any (treeOf ns) u r w hr q1 q3 (by rw [q2]; exact hu) (by rw [q2]; omega))
  have hgood := Lib.hid (fun hh => ent_good (Is := Is) (ns := ns) hh)
  clear h hu h0 ha q1 q2 q3 q4
  go_enter Try.func60, Try.ntmps60
  go_wp2_with fail
  go_loop [5] (fun i => ∃ r : Nat, r ≤ 64 ∧ i = .int .i64 r ∧ Hid (∀ j, j < r → (premP Is j && !valT (treeOf ns) j) = false)) (fun i => 64 - (intOf i).toNat)
  case atStart => exact ⟨0, by omega, rfl, fun j hj => by omega⟩
  case round =>
    obtain ⟨r, hr, rfl, hall⟩ := hrel
    by_cases hlt : r < 64
    · have hri : (r : Int) < 64 := by omega
      go_wp2_with fail
      go_loop [6, 7] (fun q i => ∃ (k : Nat) (Q : Bool), k ≤ Is.length ∧ i = .int .i64 k ∧ q = .bool Q ∧ Hid (Q = (Is.take k).all fun I => valT (treeOf I) r)) (fun _ i => Is.length - (intOf i).toNat)
      case atStart => exact ⟨0, true, Nat.zero_le _, rfl, rfl, rfl⟩
      case round =>
        obtain ⟨k, Q, hk, rfl, rfl, hQ⟩ := hrel
        have hprem : Q = false → premP Is r = false := by
          intro hq
          have h1 := hQ.out
          rw [hq] at h1
          unfold premP
          rw [List.all_eq_false]
          obtain ⟨I, hI, hI2⟩ := List.all_eq_false.1 h1.symm
          exact ⟨I, List.mem_of_mem_take hI, hI2⟩
        have hprem := Lib.hid hprem
        cases Q
        · have hgo := Lib.hid (hprem.out rfl)
          have hnext := Lib.hid (show ∀ j, j < r + 1 → (premP Is j && !valT (treeOf ns) j) = false from fun j hj => by
            rcases Nat.lt_or_ge j r with h2 | h2
            · exact hall.out j h2
            · obtain rfl : j = r := by omega
              rw [hgo.out]; rfl)
          by_cases hlt2 : k < Is.length
          · go_wp2_with fail
            go_round
            case rel => exact ⟨r + 1, by omega, by go_num, hnext.out⟩
            case measure => simp [intOf]; omega
          · obtain rfl : k = Is.length := by omega
            go_wp2_with fail
            go_round
            case rel => exact ⟨r + 1, by omega, by go_num, hnext.out⟩
            case measure => simp [intOf]; omega
        · by_cases hlt2 : k < Is.length
          · obtain rfl := hah.out (by omega)
            obtain ⟨vI, I, hI, hcI, hnI⟩ := hcell.out k hlt2
            obtain ⟨q1, q2, q3, q4⟩ := hpl.out I (List.mem_append_left _ (List.mem_of_getElem? hI))
            have hcall := Lib.hid (l04Value_any (treeOf I) vI r w (by omega) q1 q3 (by rw [q2]; exact hnI) (by rw [q2]; omega))
            obtain ⟨a1, c1, rfl⟩ := hnI.shape
            have hst := Lib.hid (show valT (treeOf I) r = (Is.take (k + 1)).all fun I => valT (treeOf I) r by
              rw [List.take_add_one, hI, List.all_append, ← hQ.out]; simp)
            clear hI hnI q1 q2 q3 q4
            generalize valT (treeOf I) r = V at *
            generalize I.length = m at *
            go_wp2_with fail
            refine hcall.out.mono ?_
            rintro e w' ⟨rfl, rfl⟩
            go_wp2_with fail
            go_round
            case rel => exact ⟨k + 1, _, by omega, by go_num, rfl, hst.out⟩
            case measure => simp [intOf]; omega
          · obtain rfl : k = Is.length := by omega
            have hp := Lib.hid (show premP Is r = true by
              have h1 := hQ.out
              rw [List.take_length] at h1
              exact h1.symm)
            cases hV : valT (treeOf ns) r
            · have hfin := Lib.hid (ent_bad (Is := Is) (ns := ns) hlt (by rw [hp.out, hV]; rfl))
              have hVh := Lib.hid hV
              clear hV
              go_wp2_with fail
              refine (hlast.out r (by omega)).mono ?_
              rintro e w' ⟨rfl, rfl⟩
              rw [hVh.out]
              go_wp2_with fail
              go_ret
              exact ⟨ret_bool hfin.out.symm, rfl⟩
            · have hnext := Lib.hid (show ∀ j, j < r + 1 → (premP Is j && !valT (treeOf ns) j) = false from fun j hj => by
                rcases Nat.lt_or_ge j r with h2 | h2
                · exact hall.out j h2
                · obtain rfl : j = r := by omega
                  rw [hV]; simp)
              have hVh := Lib.hid hV
              clear hV
              go_wp2_with fail
              refine (hlast.out r (by omega)).mono ?_
              rintro e w' ⟨rfl, rfl⟩
              rw [hVh.out]
              go_wp2_with fail
              go_round
              case rel => exact ⟨r + 1, by omega, by go_num, hnext.out⟩
              case measure => simp [intOf]; omega
    · obtain rfl : r = 64 := by omega
      have hfin := Lib.hid (hgood.out hall.out)
      go_wp2_with fail
      go_ret
      exact ⟨ret_bool hfin.out.symm, rfl⟩

def ceR (Is : List (List Nd)) (ns : List Nd) : Bool := if codeP (Is ++ [ns]) = 0 then entB Is ns else false

set_option maxHeartbeats 2000000 in
theorem implClassicalEntails_any (v : Value) (Is : List (List Nd)) (u : Value) (ns : List Nd) (w : World) (h : Fs w v Is) (hu : Nodes w u ns) (hsm : Is.length ≤ 1048576) :
    Calls Try.prog 34 #[v, u] w fun e w' => e = .returned (.tuple #[.bool (ceR Is ns), .int .i64 (codeP (Is ++ [ns]))]) ∧ Below w.heap.size w w' := by
  obtain ⟨i0, hi, hz0, hz1, hz2⟩ := info_parts info_nodes
  obtain ⟨ss, h1, h2, h3⟩ := h
  have hF : Fs w v Is := ⟨ss, h1, h2, h3⟩
  have hsm2 : ss.length ≤ 1048576 := by have := congrArg List.length h3; simp at this; omega
  clear hsm
  obtain ⟨a, c, rfl⟩ := hu.shape
  have hu := Lib.hid hu
  have hns := Lib.hid (show ((a, ns.length, c), ns).2 = ns from rfl)
  generalize hm : ns.length = m at *
  have hm := Lib.hid hm
  have hclip := Lib.hid (clip_any v ss w h1)
  have hB1 := Lib.hid ((Below.refl w.heap.size w).alloc (Nat.le_refl _) (.cells #[.slice a m c] 52))
  have hnew := Lib.hid (cell_one_new w (.slice a m c) 52)
  have h2 := Lib.hid h2
  have h3 := Lib.hid h3
  have hent := Lib.hid (fun w1 (hb : Below w.heap.size w w1) h0 => entails_any v Is (.slice a m c) ns w1 (hF.below hb (Nat.le_refl _)) (hu.out.below hb (Nat.le_refl _)) h0)
  have hc0 := Lib.hid (fun (h0 : codeP (Is ++ [ns]) = 0) => show ceR Is ns = entB Is ns by unfold ceR; rw [if_pos h0])
  have hc1 := Lib.hid (fun (h0 : ¬ codeP (Is ++ [ns]) = 0) => show ceR Is ns = false by unfold ceR; rw [if_neg h0])
  have hmap := Lib.hid (show (ss ++ [((a, m, c), ns)]).map (·.2) = Is ++ [ns] by rw [List.map_append, h3.out]; rfl)
  clear h1 hF
  go_enter Try.func34, Try.ntmps34
  go_wp2_with fail
  refine hclip.out.mono ?_
  rintro e w0 ⟨⟨b, rfl, hS⟩, rfl⟩
  have hS := Lib.hid (hS.below hB1.out (Nat.le_refl _))
  go_wp2_with (at_builtin; refine wpList_append_foreign rfl _ _ 50 rfl 52 i0 (.slice none 0 0) Try.underlying50 hi hz0 hz1 hz2 b ss ((a, m, c), ns) rfl hS.out (by omega) ⟨w.heap.size, 0, none⟩ 1 rfl (hnew.out 0 _ rfl) ?_; intro v1 w1 hS1 hb1)
  have B1 := hB1.out.trans (hb1.mono hB1.out.size)
  have hel := Lib.hid (show ∀ s ∈ ss ++ [((a, m, c), ns)], Nodes w1 (slV s) s.2 from fun s hs => by
    rcases List.mem_append.1 hs with hs | hs
    · exact (h2.out s hs).below B1 (Nat.le_refl _)
    · obtain rfl : s = ((a, m, c), ns) := by simpa using hs
      exact hu.out.below B1 (Nat.le_refl _))
  have hcode := Lib.hid (plainCode_any v1 _ w1 hS1 hel.out)
  clear hS1
  go_wp2_with fail
  refine hcode.out.mono ?_
  rintro e w2 ⟨rfl, b2⟩
  have B2 := keep_step b2 B1
  rw [hmap.out]
  by_cases h0 : codeP (Is ++ [ns]) = 0
  · have hr := Lib.hid (hc0.out h0)
    have hcall := Lib.hid (hent.out w2 B2 h0)
    have h0h := Lib.hid h0
    rw [h0]
    clear h0
    generalize entB Is ns = E at *
    go_wp2_with fail
    refine hcall.out.mono ?_
    rintro e w3 ⟨rfl, rfl⟩
    go_wp2_with fail
    go_ret2
    exact ⟨by rw [hr.out, h0h.out]; rfl, B2⟩
  · have hr := Lib.hid (hc1.out h0)
    have hne : (codeP (Is ++ [ns]) != 0) = true := by rw [bne_iff_ne]; exact h0
    clear h0
    go_wp2_with fail
    go_ret2
    exact ⟨by rw [hr.out]; rfl, B2⟩

set_option maxHeartbeats 2000000 in
theorem specClassicalEntails_any (v : Value) (Is : List (List Nd)) (u : Value) (ns : List Nd) (w : World) (h : Fs w v Is) (hu : Nodes w u ns) (hsm : Is.length ≤ 1048576) :
    Calls Try.prog 31 #[v, u] w fun e w' => e = .returned (.tuple #[.bool (ceR Is ns), .int .i64 (codeP (Is ++ [ns]))]) ∧ Below w.heap.size w w' := by
  obtain ⟨i0, hi, hz0, hz1, hz2⟩ := info_parts info_nodes
  obtain ⟨ss, h1, h2, h3⟩ := h
  have hF : Fs w v Is := ⟨ss, h1, h2, h3⟩
  have hsm2 : ss.length ≤ 1048576 := by have := congrArg List.length h3; simp at this; omega
  clear hsm
  obtain ⟨a, c, rfl⟩ := hu.shape
  have hu := Lib.hid hu
  generalize hm : ns.length = m at *
  have hm := Lib.hid hm
  have hB0 := Lib.hid ((Below.refl w.heap.size w).alloc (Nat.le_refl _) (.cells #[] 52))
  have h2 := Lib.hid h2
  have h3 := Lib.hid h3
  have hent := Lib.hid (fun w1 (hb : Below w.heap.size w w1) h0 => l04Entails_any v Is (.slice a m c) ns w1 (hF.below hb (Nat.le_refl _)) (hu.out.below hb (Nat.le_refl _)) h0)
  have hc0 := Lib.hid (fun (h0 : codeP (Is ++ [ns]) = 0) => show ceR Is ns = entB Is ns by unfold ceR; rw [if_pos h0])
  have hc1 := Lib.hid (fun (h0 : ¬ codeP (Is ++ [ns]) = 0) => show ceR Is ns = false by unfold ceR; rw [if_neg h0])
  have hmap := Lib.hid (show (ss ++ [((a, m, c), ns)]).map (·.2) = Is ++ [ns] by rw [List.map_append, h3.out]; rfl)
  have hlit := Lib.hid (show (w.alloc (.cells #[] 52)).ownsRow w.heap.size 52 1 (.slice (some ⟨w.heap.size, 0, none⟩) 0 0) 0 [] from World.ownsRow_lit w #[] 0 (Nat.le_refl _) (by simp [maxLen]) rfl)
  have hone := Lib.hid (show ∀ x ∈ ss.map slV, x.oneCell' = true from fun x hx => by
    obtain ⟨s, _, rfl⟩ := List.mem_map.1 hx
    rfl)
  have key : ∀ (w1 : World) (v1 : Value), Hid (w1.ownsRow w.heap.size 52 1 v1 ss.length (ss.map slV)) → Below w.heap.size w w1 → Hid (∀ (w2 : World) (v2 : Value), w2.ownsRow w.heap.size 52 1 v2 (ss.length + 1) (ss.map slV ++ [.slice a m c]) → Below w.heap.size w w2 → Calls Try.prog 59 #[v2] w2 fun e w' => e = .returned (.int .i64 (codeP (Is ++ [ns]))) ∧ w2 = w') := by
    intro w1 v1 _ _ w2 v2 ho2 B2
    have hS2 : Slices w2 v2 (ss ++ [((a, m, c), ns)]) := by
      have h9 := reads_of_own ho2
      unfold Slices
      rw [List.length_append, List.map_append]
      exact h9
    have hel : ∀ s ∈ ss ++ [((a, m, c), ns)], Nodes w2 (slV s) s.2 := fun s hs => by
      rcases List.mem_append.1 hs with hs | hs
      · exact (h2.out s hs).below B2 (Nat.le_refl _)
      · obtain rfl : s = ((a, m, c), ns) := by simpa using hs
        exact hu.out.below B2 (Nat.le_refl _)
    have h9 := l04Code_any v2 _ w2 hS2 hel
    rw [hmap.out] at h9
    exact h9
  obtain ⟨_, hmx, a0, c0, b0, o0, rfl, hcc, ha, hcell⟩ := h1
  have hcell := Lib.hid hcell
  clear hF
  generalize hn : ss.length = n at *
  have hnh := Lib.hid hn
  have hlenm := Lib.hid (show (ss.map slV).length = n * 1 by simp [hn])
  cases a0 with
  | none =>
    have hn0 : n = 0 := by
      rcases Nat.eq_zero_or_pos n with h0 | h0
      · exact h0
      · exact absurd (ha h0) (by simp)
    subst hn0
    obtain rfl : ss = [] := List.eq_nil_of_length_eq_zero hn
    have hoA := Lib.hid (hlit.out.alloc (.cells #[.slice a m c] 52))
    have hnew := Lib.hid (cell_one_new (w.alloc (.cells #[] 52)) (.slice a m c) 52)
    have hsz1 : (w.alloc (.cells #[] 52)).heap.size = w.heap.size + 1 := by simp
    have hsz1h := Lib.hid hsz1
    rw [hsz1] at hnew
    have hbb := Lib.hid (hB0.out.alloc hB0.out.size (.cells #[.slice a m c] 52))
    have hbs : w.heap.size ≤ ((w.alloc (.cells #[] 52)).alloc (.cells #[.slice a m c] 52)).heap.size := by simp; omega
    clear hn ha hcc hsz1
    go_enter Try.func31, Try.ntmps31
    go_wp2_with (at_builtin; first
      | (refine wpList_append_none rfl _ _ 50 rfl 52 i0 Try.underlying50 hi _ _ _ _ rfl rfl (Nat.le_refl _) ?_)
      | (refine wpList_append_own _ rfl _ _ 50 rfl w.heap.size 52 i0 (.slice none 0 0) 1 24 Try.underlying50 hi hz0 hz1 hz2 rfl (by decide) _ 0 [] rfl hoA.out ⟨w.heap.size + 1, 0, none⟩ 1 1 [.slice a m c] rfl rfl hnew.out (by simp [Value.oneCell']) (by unfold maxLen; omega) (by omega) hbs ?_; intro v2 w2 hown2 hgrow2 _))
    have B2 := hbb.out.grown hgrow2 hbs (fun j hj => (hoA.out.lt j hj).1)
    have hcode := Lib.hid ((key _ _ hlit hB0.out).out w2 v2 (by rw [Nat.zero_add] at hown2 ⊢; exact hown2) B2)
    clear hown2
    go_wp2_with fail
    refine hcode.out.mono ?_
    rintro e w3 ⟨rfl, rfl⟩
    by_cases h0 : codeP (Is ++ [ns]) = 0
    · have hr := Lib.hid (hc0.out h0)
      have hcall := Lib.hid (hent.out w2 B2 h0)
      have h0h := Lib.hid h0
      rw [h0]
      clear h0
      generalize entB Is ns = E at *
      go_wp2_with fail
      refine hcall.out.mono ?_
      rintro e w3 ⟨rfl, rfl⟩
      go_wp2_with fail
      go_ret2
      exact ⟨by rw [hr.out, h0h.out]; rfl, B2⟩
    · have hr := Lib.hid (hc1.out h0)
      have hne : (codeP (Is ++ [ns]) != 0) = true := by rw [bne_iff_ne]; exact h0
      clear h0
      go_wp2_with fail
      go_ret2
      exact ⟨by rw [hr.out]; rfl, B2⟩
  | some ad =>
    have hnews := Lib.hid (show ∀ j q, (ss.map slV)[j]? = some q → (w.alloc (.cells #[] 52)).cell? (ad.add j) = some q from fun j q hq => by
      have h0 : 0 < n := by
        have := (List.getElem?_eq_some_iff.1 hq).1
        rw [List.length_map, hn] at this
        omega
      obtain rfl : ad = ⟨b0, o0, none⟩ := by simpa using ha h0
      rw [Addr.add_lit]
      have h9 := hcell.out j q hq
      exact (hB0.out.cell (p := ⟨b0, o0 + j, none⟩) (World.block_lt_of_cell? w _ h9)).trans h9)
    have hbs0 : w.heap.size ≤ (w.alloc (.cells #[] 52)).heap.size := by simp
    have hsz : ∀ k : Nat, k ≤ 1048577 → k ≤ maxLen := fun k hk => by unfold maxLen; omega
    clear hn ha
    go_enter Try.func31, Try.ntmps31
    go_wp2_with (at_builtin; first
      | (refine wpList_append_own _ rfl _ _ 50 rfl w.heap.size 52 i0 (.slice none 0 0) 1 24 Try.underlying50 hi hz0 hz1 hz2 rfl (by decide) _ 0 [] rfl hlit.out ad n c0 (ss.map slV) rfl hlenm.out hnews.out hone.out (hsz _ (by omega)) (by omega) hbs0 ?_; intro v1 w1 hown1 hgrow1 _; rw [Nat.zero_add, List.nil_append] at hown1; have B1 := hB0.out.grown hgrow1 hbs0 (fun j hj => (hlit.out.lt j hj).1); have hs1 := B1.size; have hkey := key w1 v1 (Lib.hid hown1) B1; have hoB := Lib.hid (hown1.alloc (.cells #[.slice a m c] 52)); have hnew := Lib.hid (cell_one_new w1 (.slice a m c) 52); clear hown1)
      | (refine wpList_append_own _ rfl _ _ 50 rfl w.heap.size 52 i0 (.slice none 0 0) 1 24 Try.underlying50 hi hz0 hz1 hz2 rfl (by decide) _ n (ss.map slV) rfl (Hid.out ‹Hid (World.ownsRow (World.alloc w1 _) _ _ _ _ _ _)›) ⟨w1.heap.size, 0, none⟩ 1 1 [.slice a m c] rfl rfl (Hid.out ‹Hid (∀ j v, [Value.slice a m c][j]? = some v → World.cell? (World.alloc w1 _) _ = some v)›) (by simp [Value.oneCell']) (hsz _ (by omega)) (by omega) (by simp; omega) ?_; intro v2 w2 hown2 hgrow2 _))
    have B2 := (B1.alloc hs1 (.cells #[.slice a m c] 52)).grown hgrow2 (by simp; omega) (fun j hj => (hoB.out.lt j hj).1)
    have hcode := Lib.hid (hkey.out w2 v2 hown2 B2)
    clear hown2
    go_wp2_with fail
    refine hcode.out.mono ?_
    rintro e w3 ⟨rfl, rfl⟩
    by_cases h0 : codeP (Is ++ [ns]) = 0
    · have hr := Lib.hid (hc0.out h0)
      have hcall := Lib.hid (hent.out w2 B2 h0)
      have h0h := Lib.hid h0
      rw [h0]
      clear h0
      generalize entB Is ns = E at *
      go_wp2_with fail
      refine hcall.out.mono ?_
      rintro e w3 ⟨rfl, rfl⟩
      go_wp2_with fail
      go_ret2
      exact ⟨by rw [hr.out, h0h.out]; rfl, B2⟩
    · have hr := Lib.hid (hc1.out h0)
      have hne : (codeP (Is ++ [ns]) != 0) = true := by rw [bne_iff_ne]; exact h0
      clear h0
      go_wp2_with fail
      go_ret2
      exact ⟨by rw [hr.out]; rfl, B2⟩
end Go.Proofs.Ytfedipeabbaccaa
