/- Point formulas: what is one, of both. -/
import Derived.Test.YtfedipeabbaccaaDoorPts
import Derived.Test.YtfedipeabbaccaaDoorTurn
import Derived.Test.YtfedipeabbaccaaDoorForm
namespace Go.Proofs.YtfedipeabbaccaaDoor
open Go.RowKit Go.Deep

/-- How many parts follow a point node of a kind. -/
def arP (k : Int) : Nat := if k = 4 ∨ k = 5 ∨ k = 6 then 2 else if k = 7 ∨ k = 8 then 1 else 0
theorem arP_le (k : Int) : arP k ≤ 2 := by unfold arP; split <;> (try split) <;> omega
theorem arP_two {k : Int} (h : k = 4 ∨ k = 5 ∨ k = 6) : arP k = 2 := by simp [arP, h]
theorem arP_one {k : Int} (h : k = 7 ∨ k = 8) : arP k = 1 := by unfold arP; rw [if_neg (by omega), if_pos h]
theorem arP_none {k : Int} (h : k < 4 ∨ 8 < k) : arP k = 0 := by unfold arP; rw [if_neg (by omega), if_neg (by omega)]
theorem arP_cases (k : Int) : k = 4 ∨ k = 5 ∨ k = 6 ∨ k = 7 ∨ k = 8 ∨ k < 4 ∨ 8 < k := by omega

/-- A point node as a node of a formula with as many parts. -/
def mp (n : Pt) : Nd := (if 4 ≤ n.1 ∧ n.1 ≤ 8 then n.1 - 2 else 1, 0)
theorem ar_mp (n : Pt) : ar (mp n).1 = arP n.1 := by
  obtain ⟨k, y, z⟩ := n
  unfold mp
  rcases arP_cases k with rfl | rfl | rfl | rfl | rfl | h
  · rfl
  · rfl
  · rfl
  · rfl
  · rfl
  · show ar (if 4 ≤ k ∧ k ≤ 8 then k - 2 else 1) = _
    rw [if_neg (by omega)]
    rw [arP_none h]; rfl
def pEnd (ns : List Pt) (i : Nat) : Int := partEndL (ns.map mp) i
theorem skipP_next {ns : List Pt} {j op : Nat} {x y z : Int} (hx : ns[j]? = some (x, y, z)) : skip ((ns.map mp).drop j) (op + 1) = skip ((ns.map mp).drop (j + 1)) (op + arP x) := by
  have h := skip_next (ns := ns.map mp) (j := j) (op := op) (x := (mp (x, y, z)).1) (y := (mp (x, y, z)).2) (by rw [List.getElem?_map, hx]; rfl)
  rw [ar_mp] at h
  exact h

def ptB (n : Pt) : Bool := if n.1 = 0 ∨ n.1 = 1 then inR n.2.1 0 9 && inR n.2.2 0 9 else if n.1 = 2 then inR n.2.1 0 5 && inR n.2.2 0 9 else if n.1 = 7 ∨ n.1 = 8 then inR n.2.1 0 9 && decide (n.2.2 = 0) else inR n.1 3 6 && decide (n.2.1 = 0) && decide (n.2.2 = 0)
def ptFormB (ns : List Pt) : Bool := decide (1 ≤ ns.length) && decide (ns.length ≤ 120) && ns.all ptB && decide (skip (ns.map mp) 1 = some [])
theorem ptB_sees {x y z : Int} (h : x = 0 ∨ x = 1) : ptB (x, y, z) = (inR y 0 9 && inR z 0 9) := by simp [ptB, h]
theorem ptB_val {y z : Int} : ptB (2, y, z) = (inR y 0 5 && inR z 0 9) := by simp [ptB]
theorem ptB_quant {x y z : Int} (h : x = 7 ∨ x = 8) : ptB (x, y, z) = (inR y 0 9 && decide (z = 0)) := by
  unfold ptB
  rw [if_neg (by show ¬ (x = 0 ∨ x = 1); omega), if_neg (by show ¬ (x = 2); omega), if_pos h]
theorem ptB_else {x y z : Int} (h : ¬ (x = 0 ∨ x = 1 ∨ x = 2 ∨ x = 7 ∨ x = 8)) : ptB (x, y, z) = (inR x 3 6 && decide (y = 0) && decide (z = 0)) := by
  unfold ptB
  rw [if_neg (by show ¬ (x = 0 ∨ x = 1); omega), if_neg (by show ¬ (x = 2); omega), if_neg (by show ¬ (x = 7 ∨ x = 8); omega)]
theorem pt_cases (x : Int) : (x = 0 ∨ x = 1) ∨ x = 2 ∨ (x = 7 ∨ x = 8) ∨ ¬ (x = 0 ∨ x = 1 ∨ x = 2 ∨ x = 7 ∨ x = 8) := by omega

theorem isPoint_any (v : Int) (w : World) :
    Calls Tryd.prog 80 #[.int .i64 v] w fun e w' => e = .returned (.bool (inR v 0 9)) ∧ w = w' := by
  go_enter Tryd.func80, Tryd.ntmps80
  go_wp2_with (go_at_call 35; refine (inRange_any _ _ _ _).mono ?_; rintro e w' ⟨rfl, rfl⟩)
  go_ret
  exact ⟨rfl, rfl⟩

set_option maxHeartbeats 2000000 in
theorem isPointNode_any (x y z : Int) (w : World) :
    Calls Tryd.prog 60 #[.agg #[.int .i64 x, .int .i64 y, .int .i64 z]] w fun e w' => e = .returned (.bool (ptB (x, y, z))) ∧ Below w.heap.size w w' := by
  rcases pt_cases x with h | rfl | h | h
  · have hf := Lib.hid (ptB_sees (y := y) (z := z) h)
    rcases h with rfl | rfl
    all_goals
      cases hy : inR y 0 9
      all_goals
        go_enter Tryd.func60, Tryd.ntmps60
        go_wp2_with (go_at_call 80; refine (isPoint_any _ _).mono ?_; rintro e w' ⟨rfl, rfl⟩)
        go_ret
        exact ⟨ret_bool (by rw [hf.out, hy]; rfl), (Below.refl _ _).alloc (Nat.le_refl _) _⟩
  · have hf := Lib.hid (ptB_val (y := y) (z := z))
    cases hy : inR y 0 5
    all_goals
      go_enter Tryd.func60, Tryd.ntmps60
      go_wp2_with (first | (go_at_call 80; refine (isPoint_any _ _).mono ?_; rintro e w' ⟨rfl, rfl⟩) | (go_at_call 81; refine (isVariable_any _ _).mono ?_; rintro e w' ⟨rfl, rfl⟩))
      go_ret
      exact ⟨ret_bool (by rw [hf.out, hy]; rfl), (Below.refl _ _).alloc (Nat.le_refl _) _⟩
  · have hf := Lib.hid (ptB_quant (y := y) (z := z) h)
    rcases h with rfl | rfl
    all_goals
      by_cases hz : z = 0
      · subst hz
        cases hy : inR y 0 9
        all_goals
          go_enter Tryd.func60, Tryd.ntmps60
          go_wp2_with (go_at_call 80; refine (isPoint_any _ _).mono ?_; rintro e w' ⟨rfl, rfl⟩)
          go_ret
          exact ⟨ret_bool (by rw [hf.out, hy]; rfl), (Below.refl _ _).alloc (Nat.le_refl _) _⟩
      · have hz0 : (z == 0) = false := by simpa using hz
        have hzd := Lib.hid (show decide (z = 0) = false by simpa using hz)
        clear hz
        cases hy : inR y 0 9
        all_goals
          go_enter Tryd.func60, Tryd.ntmps60
          go_wp2_with (go_at_call 80; refine (isPoint_any _ _).mono ?_; rintro e w' ⟨rfl, rfl⟩)
          go_ret
          exact ⟨ret_bool (by rw [hf.out, hy, hzd.out]; rfl), (Below.refl _ _).alloc (Nat.le_refl _) _⟩
  · have hf := Lib.hid (ptB_else (y := y) (z := z) h)
    have e0 : (x == 0) = false := by rw [beq_eq_false_iff_ne]; omega
    have e1 : (x == 1) = false := by rw [beq_eq_false_iff_ne]; omega
    have e2 : (x == 2) = false := by rw [beq_eq_false_iff_ne]; omega
    have e7 : (x == 7) = false := by rw [beq_eq_false_iff_ne]; omega
    have e8 : (x == 8) = false := by rw [beq_eq_false_iff_ne]; omega
    clear h
    cases hx : inR x 3 6
    · go_enter Tryd.func60, Tryd.ntmps60
      go_wp2_with (go_at_call 35; refine (inRange_any _ _ _ _).mono ?_; rintro e w' ⟨rfl, rfl⟩)
      go_ret
      exact ⟨ret_bool (by rw [hf.out, hx]; rfl), (Below.refl _ _).alloc (Nat.le_refl _) _⟩
    · by_cases hy : y = 0
      · subst hy
        by_cases hz : z = 0
        · subst hz
          go_enter Tryd.func60, Tryd.ntmps60
          go_wp2_with (go_at_call 35; refine (inRange_any _ _ _ _).mono ?_; rintro e w' ⟨rfl, rfl⟩)
          go_ret
          exact ⟨ret_bool (by rw [hf.out, hx]; rfl), (Below.refl _ _).alloc (Nat.le_refl _) _⟩
        · have hz0 : (z == 0) = false := by simpa using hz
          have hzd := Lib.hid (show decide (z = 0) = false by simpa using hz)
          clear hz
          go_enter Tryd.func60, Tryd.ntmps60
          go_wp2_with (go_at_call 35; refine (inRange_any _ _ _ _).mono ?_; rintro e w' ⟨rfl, rfl⟩)
          go_ret
          exact ⟨ret_bool (by rw [hf.out, hx, hzd.out]; rfl), (Below.refl _ _).alloc (Nat.le_refl _) _⟩
      · have hy0 : (y == 0) = false := by simpa using hy
        have hyd := Lib.hid (show decide (y = 0) = false by simpa using hy)
        clear hy
        go_enter Tryd.func60, Tryd.ntmps60
        go_wp2_with (go_at_call 35; refine (inRange_any _ _ _ _).mono ?_; rintro e w' ⟨rfl, rfl⟩)
        go_ret
        exact ⟨ret_bool (by rw [hf.out, hx, hyd.out]; rfl), (Below.refl _ _).alloc (Nat.le_refl _) _⟩

/-- A point node as a value. -/
def aggP (n : Pt) : Value := .agg #[.int .i64 n.1, .int .i64 n.2.1, .int .i64 n.2.2]

set_option maxHeartbeats 800000 in
theorem indexFuncP_any (g : Nat) (lb : Array Value) (eg : ∀ args w, (callFunc g args).run Tryd.prog w = .ok (.enter g args) w) (v : Value) (ns : List Pt) (p : Pt → Bool) (w : World) (h : Points w v ns) (hp : Pred Tryd.prog g lb aggP ns p w) :
    Calls Tryd.prog 79 #[v, .func (.func g) #[] lb] w fun e w' => (∃ i : Int, e = .returned (.int .i64 i) ∧ -1 ≤ i ∧ Hid (decide (0 ≤ i) = ns.any p)) ∧ Below w.heap.size w w' := by
  obtain ⟨hm, a, c, b, o, rfl, hc, h0, hcell⟩ := h.opened
  unfold maxLen at hm
  have hp := Lib.hid hp
  clear h
  rcases h0 with h0 | ⟨h0, rfl⟩
  all_goals
    go_enter Tryd.func79, Tryd.ntmps79
    go_wp2_with fail
    go_loopw [8] (fun i wr => ∃ k : Nat, k ≤ ns.length ∧ i = .int .i64 k ∧ Hid (∀ i x, i < k → ns[i]? = some x → p x = false) ∧ Below w.heap.size w wr) (fun i _ => ns.length - (intOf i).toNat)
    case atStart => exact ⟨0, Nat.zero_le _, rfl, fun j x hj => by omega, Below.refl _ _⟩
    case round =>
      obtain ⟨k, hk, rfl, hall, hb⟩ := hrel
      by_cases hlt : k < ns.length
      · all_goals try (exfalso; omega)
        all_goals
          obtain ⟨x, y, z, hx, hcx, hcy, hcz⟩ := hcell.out k hlt
          have lx := World.block_lt_of_cell? w _ hcx
          have hcx := (hb.cell (p := ⟨b, o + k * 3, none⟩) lx).trans hcx
          have hcy := (hb.cell (p := ⟨b, o + k * 3 + 1, none⟩) lx).trans hcy
          have hcz := (hb.cell (p := ⟨b, o + k * 3 + 2, none⟩) lx).trans hcz
          have hcall := hp.out wr (x, y, z) (List.mem_of_getElem? hx) hb hb.size
          unfold aggP at hcall
          have hcall := Lib.hid hcall
          have hx := Lib.hid hx
          cases hin : p (x, y, z)
          · go_wp2_with (go_at_fn g; refine hcall.out.mono ?_; rintro e w' ⟨rfl, hb'⟩)
            go_roundw
            case rel =>
              refine ⟨k + 1, by omega, by go_num, fun i q hi hz => ?_, hb.trans (hb'.mono hb.size)⟩
              rcases Nat.lt_or_ge i k with h2 | h2
              · exact hall.out i q h2 hz
              · obtain rfl : i = k := by omega
                rw [hx.out] at hz
                obtain rfl := Option.some.inj hz
                exact hin
            case measure => simp [intOf]; omega
          · have hf := Lib.hid (any_yes hx.out hin)
            go_wp2_with (go_at_fn g; refine hcall.out.mono ?_; rintro e w' ⟨rfl, hb'⟩)
            go_ret
            exact ⟨⟨_, rfl, by omega, by show _ = _; rw [hf.out]; simp⟩, hb.trans (hb'.mono hb.size)⟩
      · obtain rfl : k = ns.length := by omega
        have hf := Lib.hid (any_no hall.out)
        go_wp2_with fail
        go_ret
        exact ⟨⟨_, rfl, by omega, by show _ = _; rw [hf.out]; rfl⟩, hb⟩

theorem containsFuncP_any (g : Nat) (lb : Array Value) (eg : ∀ args w, (callFunc g args).run Tryd.prog w = .ok (.enter g args) w) (v : Value) (ns : List Pt) (p : Pt → Bool) (w : World) (h : Points w v ns) (hp : Pred Tryd.prog g lb aggP ns p w) :
    Calls Tryd.prog 58 #[v, .func (.func g) #[] lb] w fun e w' => e = .returned (.bool (ns.any p)) ∧ Below w.heap.size w w' := by
  have hp := Lib.hid hp
  go_enter Tryd.func58, Tryd.ntmps58
  go_wp2_with (go_at_call 79; refine (indexFuncP_any g lb eg _ ns p _ h hp.out).mono ?_; rintro e w' ⟨⟨i, rfl, hi, hd⟩, hb⟩)
  go_ret
  exact ⟨ret_bool hd.out, hb⟩

theorem pointParts_any (k : Int) (w : World) :
    Calls Tryd.prog 82 #[.int .i64 k] w fun e w' => e = .returned (.int .i64 (arP k)) ∧ w = w' := by
  rcases arP_cases k with rfl | rfl | rfl | rfl | rfl | h
  · go_enter Tryd.func82, Tryd.ntmps82
    go_wp2_with fail
    go_ret
    exact ⟨rfl, rfl⟩
  · go_enter Tryd.func82, Tryd.ntmps82
    go_wp2_with fail
    go_ret
    exact ⟨rfl, rfl⟩
  · go_enter Tryd.func82, Tryd.ntmps82
    go_wp2_with fail
    go_ret
    exact ⟨rfl, rfl⟩
  · go_enter Tryd.func82, Tryd.ntmps82
    go_wp2_with fail
    go_ret
    exact ⟨rfl, rfl⟩
  · go_enter Tryd.func82, Tryd.ntmps82
    go_wp2_with fail
    go_ret
    exact ⟨rfl, rfl⟩
  · have hn := Lib.hid (arP_none h)
    have e4 : (k == 4) = false := by rw [beq_eq_false_iff_ne]; omega
    have e5 : (k == 5) = false := by rw [beq_eq_false_iff_ne]; omega
    have e6 : (k == 6) = false := by rw [beq_eq_false_iff_ne]; omega
    have e7 : (k == 7) = false := by rw [beq_eq_false_iff_ne]; omega
    have e8 : (k == 8) = false := by rw [beq_eq_false_iff_ne]; omega
    clear h
    go_enter Tryd.func82, Tryd.ntmps82
    go_wp2_with fail
    go_ret
    exact ⟨ret_int (by rw [hn.out]; rfl), rfl⟩

set_option maxHeartbeats 400000 in
theorem pointEnd_any (v : Value) (ns : List Pt) (i0 : Int) (w : World) (h : Points w v ns) (hi0 : 0 ≤ i0) (hi1 : i0 ≤ ns.length) (hn : ns.length ≤ 4611686018427387904) :
    Calls Tryd.prog 61 #[v, .int .i64 i0] w fun e w' => e = .returned (.int .i64 (pEnd ns i0.toNat)) ∧ w = w' := by
  obtain ⟨hm, a, c, b, o, rfl, hc, h0, hcell⟩ := h.opened
  clear h hm
  obtain ⟨i, rfl⟩ := Int.eq_ofNat_of_zero_le hi0
  rw [Int.toNat_natCast]
  have hi1 : i ≤ ns.length := by omega
  have hml : (ns.map mp).length = ns.length := List.length_map _
  have hmlh := Lib.hid hml
  clear hml
  rcases h0 with h0 | ⟨h0, rfl⟩
  all_goals
    go_enter Tryd.func61, Tryd.ntmps61
    go_wp2_with fail
    go_loop [1, 5] (fun s p => ∃ j op : Nat, j ≤ ns.length ∧ op ≤ 1 + j ∧ s = .int .i64 j ∧ p = .int .i64 op ∧ Hid (skip ((ns.map mp).drop i) 1 = skip ((ns.map mp).drop j) op)) (fun s _ => ns.length - (intOf s).toNat)
    case atStart => exact ⟨i, 1, hi1, by omega, rfl, rfl, rfl⟩
    case round =>
      obtain ⟨j, op, hj, hop, rfl, rfl, hs⟩ := hrel
      rcases Nat.eq_zero_or_pos op with h1 | h1
      · subst h1
        have hf := Lib.hid (partEnd_some hs.out (by rw [hmlh.out]; exact hj))
        go_wp2_with fail
        go_ret
        exact ⟨ret_int hf.out.symm, rfl⟩
      · by_cases hlt : j < ns.length
        · all_goals try (exfalso; omega)
          all_goals
            obtain ⟨x, y, z, hx, hcx, hcy, hcz⟩ := hcell.out j hlt
            have hnext := Lib.hid (skipP_next (op := op - 1) hx)
            have har := arP_le x
            clear hx
            go_wp2_with (go_at_call 82; refine (pointParts_any _ _).mono ?_; rintro e w' ⟨rfl, rfl⟩)
            go_round
            case rel =>
              refine ⟨j + 1, op - 1 + arP x, by omega, by omega, by go_num, by go_num, ?_⟩
              show _ = _
              rw [hs.out, ← hnext.out, Nat.sub_add_cancel h1]
            case measure => simp [intOf]; omega
        · have hf := Lib.hid (partEnd_none hs.out (by rw [hmlh.out]; omega) h1)
          go_wp2_with fail
          go_ret
          exact ⟨ret_int hf.out.symm, rfl⟩

theorem pf_long {ns : List Pt} (h : 120 < ns.length) : ptFormB ns = false := by simp [ptFormB]; omega
theorem pf_bad {ns : List Pt} (h : ns.all ptB = false) : ptFormB ns = false := by simp [ptFormB, h]
theorem pf_empty {ns : List Pt} (h : ns.length ≤ 0) : ptFormB ns = false := by simp [ptFormB]; omega
theorem pf_rest {ns : List Pt} (h1 : 1 ≤ ns.length) (h2 : ns.length ≤ 120) (h3 : ns.all ptB = true) : ptFormB ns = (pEnd ns 0 == (ns.length : Int)) := by
  have hl : (ns.map mp).length = ns.length := List.length_map _
  unfold pEnd
  rw [Bool.eq_iff_iff, beq_iff_eq, ← hl, partEnd_len]
  simp [ptFormB, h1, h2, h3]

theorem isPointFormula1_pred (ns : List Pt) (w : World) : Pred Tryd.prog 59 #[] aggP ns (fun n => !ptB n) w := by
  intro W n _ _ _
  obtain ⟨x, y, z⟩ := n
  unfold aggP
  show Calls Tryd.prog 59 #[.agg #[.int .i64 x, .int .i64 y, .int .i64 z]] W _
  go_enter Tryd.func59, Tryd.ntmps59
  go_wp2_with fail
  refine (isPointNode_any _ _ _ _).mono ?_
  rintro e w' ⟨rfl, hb⟩
  go_wp2_with fail
  go_ret
  exact ⟨rfl, ((Below.refl _ _).alloc (Nat.le_refl _) _).trans (hb.mono (by simp))⟩

set_option maxHeartbeats 400000 in
theorem isPointFormula_any (v : Value) (ns : List Pt) (w : World) (h : Points w v ns) :
    Calls Tryd.prog 30 #[v] w fun e w' => e = .returned (.bool (ptFormB ns)) ∧ Below w.heap.size w w' := by
  have hv := Lib.hid h
  obtain ⟨hm, a, c, b, o, rfl, hc, h0, hcell⟩ := h.opened
  unfold maxLen at hm
  clear h h0 hcell
  have heg := Lib.hid (enters_of Tryd.func59 (by kernel_rfl) rfl)
  by_cases h1 : ns.length ≤ 0
  · have hf := Lib.hid (pf_empty h1)
    go_enter Tryd.func30, Tryd.ntmps30
    go_wp2_with fail
    go_ret
    exact ⟨ret_bool hf.out.symm, Below.refl _ _⟩
  · by_cases h2 : 120 < ns.length
    · have hf := Lib.hid (pf_long h2)
      go_enter Tryd.func30, Tryd.ntmps30
      go_wp2_with fail
      go_ret
      exact ⟨ret_bool hf.out.symm, Below.refl _ _⟩
    · have hna := Lib.hid (not_any ns ptB)
      cases h3 : ns.all ptB
      · have hf := Lib.hid (pf_bad h3)
        have hany : (ns.any fun n => !ptB n) = true := by have := hna.out; rw [h3] at this; simpa using this
        go_enter Tryd.func30, Tryd.ntmps30
        go_wp2_with (go_at_call 58; refine (containsFuncP_any _ _ heg.out _ ns _ _ hv.out (isPointFormula1_pred ns _)).mono ?_; rintro e w' ⟨rfl, hb⟩)
        go_ret
        exact ⟨ret_bool hf.out.symm, hb⟩
      · have hf := Lib.hid (pf_rest (by omega) (by omega) h3)
        have hany : (ns.any fun n => !ptB n) = false := by have := hna.out; rw [h3] at this; simpa using this
        go_enter Tryd.func30, Tryd.ntmps30
        go_wp2_with (first | (go_at_call 58; refine (containsFuncP_any _ _ heg.out _ ns _ _ hv.out (isPointFormula1_pred ns _)).mono ?_; rintro e w' ⟨rfl, hb⟩) | (go_at_call 61; refine (pointEnd_any _ ns _ _ (hv.out.below hb (Nat.le_refl _)) (by omega) (by omega) (by omega)).mono ?_; rintro e w' ⟨rfl, rfl⟩))
        go_ret
        exact ⟨ret_bool hf.out.symm, hb⟩

end Go.Proofs.YtfedipeabbaccaaDoor
