/- Walks of what tells whether a list of nodes is a formula, and where a part ends: of the program and of the reference. -/
import Derived.Test.YtmhkcicjbgifnaaGreatMNodes
import Derived.Test.YtmhkcicjbgifnaaGreatMAppendNilM
import Derived.Test.YtmhkcicjbgifnaaGreatMPredM

namespace Go.Proofs.YtmhkcicjbgifnaaGreat
open Go.RowKit

theorem ar_two {k : Int} (h : k = 2 ∨ k = 3 ∨ k = 4) : ar k = 2 := by simp [ar, h]
theorem ar_one {k : Int} (h : k = 5 ∨ k = 6) : ar k = 1 := by unfold ar; rw [if_neg (by omega), if_pos h]
theorem ar_none {k : Int} (h : k < 2 ∨ 6 < k) : ar k = 0 := by unfold ar; rw [if_neg (by omega), if_neg (by omega)]
theorem ar_cases (k : Int) : k = 2 ∨ k = 3 ∨ k = 4 ∨ k = 5 ∨ k = 6 ∨ k < 2 ∨ 6 < k := by omega

theorem partsOf_any (k : Int) (w : World) :
    Calls Tryz.prog 97 #[.int .i64 k] w fun e w' => e = .returned (.int .i64 (ar k : Nat)) ∧ w = w' := by
  rcases ar_cases k with rfl | rfl | rfl | rfl | rfl | h | h
  all_goals
    go_enter Tryz.func97, Tryz.ntmps97
    go_wp2_with fail
    go_ret
    first
      | exact ⟨rfl, rfl⟩
      | exact ⟨ret_int (by rw [ar_none (by omega)]; rfl), rfl⟩

theorem l02Parts_any (k : Int) (w : World) :
    Calls Tryz.prog 103 #[.int .i64 k] w fun e w' => e = .returned (.int .i64 (ar k : Nat)) ∧ w = w' := by
  rcases ar_cases k with rfl | rfl | rfl | rfl | rfl | h | h
  all_goals
    go_enter Tryz.func103, Tryz.ntmps103
    go_wp2_with fail
    go_ret
    first
      | exact ⟨rfl, rfl⟩
      | exact ⟨ret_int (by rw [ar_none (by omega)]; rfl), rfl⟩

theorem partEnd_none {ns : List Nd} {i j op : Nat} (h : skip (ns.drop i) 1 = skip (ns.drop j) op) (hj : ns.length ≤ j) (hop : 0 < op) : partEndL ns i = -1 := by
  obtain ⟨o, rfl⟩ : ∃ o, op = o + 1 := ⟨op - 1, by omega⟩
  unfold partEndL
  rw [h, List.drop_of_length_le hj, skip_nil]

theorem partEnd_some {ns : List Nd} {i j : Nat} (h : skip (ns.drop i) 1 = skip (ns.drop j) 0) (hj : j ≤ ns.length) : partEndL ns i = j := by
  unfold partEndL
  rw [h, skip_zero]
  simp only [List.length_drop]
  omega

theorem skip_next {ns : List Nd} {j op : Nat} {x y : Int} (hx : ns[j]? = some (x, y)) : skip (ns.drop j) (op + 1) = skip (ns.drop (j + 1)) (op + ar x) := by
  have hj : j < ns.length := (List.getElem?_eq_some_iff.1 hx).1
  rw [List.drop_eq_getElem_cons hj]
  have : ns[j] = (x, y) := by simpa [hj] using hx
  rw [this, skip_cons]

set_option maxHeartbeats 400000 in
theorem partEnd_any (v : Value) (ns : List Nd) (i0 : Int) (w : World) (h : Nodes w v ns) (hi0 : 0 ≤ i0) (hi1 : i0 ≤ ns.length) (hn : ns.length ≤ 4611686018427387904) :
    Calls Tryz.prog 78 #[v, .int .i64 i0] w fun e w' => e = .returned (.int .i64 (partEndL ns i0.toNat)) ∧ w = w' := by
  obtain ⟨hm, a, c, b, o, rfl, hc, h0, hcell⟩ := h.opened
  clear h hm
  obtain ⟨i, rfl⟩ := Int.eq_ofNat_of_zero_le hi0
  rw [Int.toNat_natCast]
  have hi1 : i ≤ ns.length := by omega
  rcases h0 with h0 | ⟨h0, rfl⟩
  all_goals
    go_enter Tryz.func78, Tryz.ntmps78
    go_wp2_with fail
    go_loop [1, 5] (fun s p => ∃ j op : Nat, j ≤ ns.length ∧ op ≤ 1 + j ∧ s = .int .i64 j ∧ p = .int .i64 op ∧ Hid (skip (ns.drop i) 1 = skip (ns.drop j) op)) (fun s _ => ns.length - (intOf s).toNat)
    case atStart => exact ⟨i, 1, hi1, by omega, rfl, rfl, rfl⟩
    case round =>
      obtain ⟨j, op, hj, hop, rfl, rfl, hs⟩ := hrel
      rcases Nat.eq_zero_or_pos op with h1 | h1
      · subst h1
        have hf := Lib.hid (partEnd_some hs.out hj)
        go_wp2_with fail
        go_ret
        exact ⟨ret_int hf.out.symm, rfl⟩
      · by_cases hlt : j < ns.length
        · all_goals try (exfalso; omega)
          all_goals
            obtain ⟨x, y, hx, hcx, hcy⟩ := hcell.out j hlt
            have hnext := Lib.hid (skip_next (op := op - 1) hx)
            have har := ar_le x
            clear hx
            go_wp2_with (go_at_call 97; refine (partsOf_any _ _).mono ?_; rintro e w' ⟨rfl, rfl⟩)
            go_round
            case rel =>
              refine ⟨j + 1, op - 1 + ar x, by omega, by omega, by go_num, by go_num, ?_⟩
              show _ = _
              rw [hs.out, ← hnext.out, Nat.sub_add_cancel h1]
            case measure => simp [intOf]; omega
        · have hf := Lib.hid (partEnd_none hs.out (by omega) h1)
          go_wp2_with fail
          go_ret
          exact ⟨ret_int hf.out.symm, rfl⟩

set_option maxHeartbeats 400000 in
theorem l02Part_any (v : Value) (ns : List Nd) (i0 : Int) (w : World) (h : Nodes w v ns) (hi0 : 0 ≤ i0) (hi1 : i0 ≤ ns.length) (hn : ns.length ≤ 4611686018427387904) :
    Calls Tryz.prog 91 #[v, .int .i64 i0] w fun e w' => e = .returned (.int .i64 (partEndL ns i0.toNat)) ∧ w = w' := by
  obtain ⟨hm, a, c, b, o, rfl, hc, h0, hcell⟩ := h.opened
  clear h hm
  obtain ⟨i, rfl⟩ := Int.eq_ofNat_of_zero_le hi0
  rw [Int.toNat_natCast]
  have hi1 : i ≤ ns.length := by omega
  rcases h0 with h0 | ⟨h0, rfl⟩
  all_goals
    go_enter Tryz.func91, Tryz.ntmps91
    go_wp2_with fail
    go_loop [1, 5] (fun s p => ∃ j op : Nat, j ≤ ns.length ∧ op ≤ 1 + j ∧ s = .int .i64 j ∧ p = .int .i64 op ∧ Hid (skip (ns.drop i) 1 = skip (ns.drop j) op)) (fun s _ => ns.length - (intOf s).toNat)
    case atStart => exact ⟨i, 1, hi1, by omega, rfl, rfl, rfl⟩
    case round =>
      obtain ⟨j, op, hj, hop, rfl, rfl, hs⟩ := hrel
      rcases Nat.eq_zero_or_pos op with h1 | h1
      · subst h1
        have hf := Lib.hid (partEnd_some hs.out hj)
        go_wp2_with fail
        go_ret
        exact ⟨ret_int hf.out.symm, rfl⟩
      · by_cases hlt : j < ns.length
        · all_goals try (exfalso; omega)
          all_goals
            obtain ⟨x, y, hx, hcx, hcy⟩ := hcell.out j hlt
            have hnext := Lib.hid (skip_next (op := op - 1) hx)
            have har := ar_le x
            clear hx
            go_wp2_with (go_at_call 103; refine (l02Parts_any _ _).mono ?_; rintro e w' ⟨rfl, rfl⟩)
            go_round
            case rel =>
              refine ⟨j + 1, op - 1 + ar x, by omega, by omega, by go_num, by go_num, ?_⟩
              show _ = _
              rw [hs.out, ← hnext.out, Nat.sub_add_cancel h1]
            case measure => simp [intOf]; omega
        · have hf := Lib.hid (partEnd_none hs.out (by omega) h1)
          go_wp2_with fail
          go_ret
          exact ⟨ret_int hf.out.symm, rfl⟩

theorem nodeB_var {y : Int} : nodeB (0, y) = inR y 0 5 := by simp [nodeB, inR]
theorem nodeB_other {x y : Int} (h : x ≠ 0) : nodeB (x, y) = (inR x 1 6 && decide (y = 0)) := by simp [nodeB, inR, h]

theorem isVariable_any (v : Int) (w : World) :
    Calls Tryz.prog 104 #[.int .i64 v] w fun e w' => e = .returned (.bool (inR v 0 5)) ∧ w = w' := by
  go_enter Tryz.func104, Tryz.ntmps104
  go_wp2_with (go_at_call 105; refine (inRange_any _ _ _ _).mono ?_; rintro e w' ⟨rfl, rfl⟩)
  go_ret
  exact ⟨rfl, rfl⟩

/-- A node as a value. -/
def aggN (n : Nd) : Value := .agg #[.int .i64 n.1, .int .i64 n.2]

theorem isNode_any (x y : Int) (w : World) :
    Calls Tryz.prog 93 #[.agg #[.int .i64 x, .int .i64 y]] w fun e w' => e = .returned (.bool (nodeB (x, y))) ∧ Below w.heap.size w w' := by
  by_cases hx : x = 0
  · subst hx
    have hf := Lib.hid (nodeB_var (y := y))
    go_enter Tryz.func93, Tryz.ntmps93
    go_wp2_with (go_at_call 104; refine (isVariable_any _ _).mono ?_; rintro e w' ⟨rfl, rfl⟩)
    go_ret
    exact ⟨ret_bool hf.out.symm, (Below.refl _ _).alloc (Nat.le_refl _) _⟩
  · have hf := Lib.hid (nodeB_other (y := y) hx)
    have hx0 : (x == 0) = false := by simpa using hx
    clear hx
    cases h2 : inR x 1 6
    · go_enter Tryz.func93, Tryz.ntmps93
      go_wp2_with (go_at_call 105; refine (inRange_any _ _ _ _).mono ?_; rintro e w' ⟨rfl, rfl⟩)
      go_ret
      exact ⟨ret_bool (by rw [hf.out, h2]; rfl), (Below.refl _ _).alloc (Nat.le_refl _) _⟩
    · by_cases hy : y = 0
      · subst hy
        go_enter Tryz.func93, Tryz.ntmps93
        go_wp2_with (go_at_call 105; refine (inRange_any _ _ _ _).mono ?_; rintro e w' ⟨rfl, rfl⟩)
        go_ret
        exact ⟨ret_bool (by rw [hf.out, h2]; rfl), (Below.refl _ _).alloc (Nat.le_refl _) _⟩
      · have hy0 : (y == 0) = false := by simpa using hy
        have hyd := Lib.hid (show decide (y = 0) = false by simpa using hy)
        clear hy
        go_enter Tryz.func93, Tryz.ntmps93
        go_wp2_with (go_at_call 105; refine (inRange_any _ _ _ _).mono ?_; rintro e w' ⟨rfl, rfl⟩)
        go_ret
        exact ⟨ret_bool (by rw [hf.out, h2, hyd.out]; rfl), (Below.refl _ _).alloc (Nat.le_refl _) _⟩

set_option maxHeartbeats 800000 in
theorem indexFuncN_any (g : Nat) (lb : Array Value) (eg : ∀ args w, (callFunc g args).run Tryz.prog w = .ok (.enter g args) w) (v : Value) (ns : List Nd) (p : Nd → Bool) (w : World) (h : Nodes w v ns) (hp : Pred Tryz.prog g lb aggN ns p w) :
    Calls Tryz.prog 94 #[v, .func (.func g) #[] lb] w fun e w' => (∃ i : Int, e = .returned (.int .i64 i) ∧ -1 ≤ i ∧ Hid (decide (0 ≤ i) = ns.any p)) ∧ Below w.heap.size w w' := by
  obtain ⟨hm, a, c, b, o, rfl, hc, h0, hcell⟩ := h.opened
  unfold maxLen at hm
  have hp := Lib.hid hp
  clear h
  rcases h0 with h0 | ⟨h0, rfl⟩
  all_goals
    go_enter Tryz.func94, Tryz.ntmps94
    go_wp2_with fail
    go_loopw [8] (fun i wr => ∃ k : Nat, k ≤ ns.length ∧ i = .int .i64 k ∧ Hid (∀ i x, i < k → ns[i]? = some x → p x = false) ∧ Below w.heap.size w wr) (fun i _ => ns.length - (intOf i).toNat)
    case atStart => exact ⟨0, Nat.zero_le _, rfl, fun j x hj => by omega, Below.refl _ _⟩
    case round =>
      obtain ⟨k, hk, rfl, hall, hb⟩ := hrel
      by_cases hlt : k < ns.length
      · all_goals try (exfalso; omega)
        all_goals
          obtain ⟨x, y, hx, hcx, hcy⟩ := hcell.out k hlt
          have lx := World.block_lt_of_cell? w _ hcx
          have hcx := (hb.cell (p := ⟨b, o + k * 2, none⟩) lx).trans hcx
          have hcy := (hb.cell (p := ⟨b, o + k * 2 + 1, none⟩) lx).trans hcy
          have hcall := hp.out wr (x, y) (List.mem_of_getElem? hx) hb hb.size
          unfold aggN at hcall
          have hcall := Lib.hid hcall
          have hx := Lib.hid hx
          cases hin : p (x, y)
          · go_wp2_with (go_at_fn g; refine hcall.out.mono ?_; rintro e w' ⟨rfl, hb'⟩)
            go_roundw
            case rel =>
              refine ⟨k + 1, by omega, by go_num, fun i z hi hz => ?_, hb.trans (hb'.mono hb.size)⟩
              rcases Nat.lt_or_ge i k with h2 | h2
              · exact hall.out i z h2 hz
              · obtain rfl : i = k := by omega
                rw [hx.out] at hz
                obtain rfl := Option.some.inj hz
                exact hin
            case measure => simp [intOf]; omega
          · have hf := Lib.hid (any_yes hx.out hin)
            go_wp2_with (go_at_fn g; refine hcall.out.mono ?_; rintro e w' ⟨rfl, hb'⟩)
            go_ret
            exact ⟨⟨_, rfl, by omega, by show _ = _; rw [hf.out]; simp⟩, hb.trans (hb'.mono hb.size)⟩
      · obtain rfl : k = ns.length := by omega
        have hf := Lib.hid (any_no hall.out)
        go_wp2_with fail
        go_ret
        exact ⟨⟨_, rfl, by omega, by show _ = _; rw [hf.out]; rfl⟩, hb⟩

theorem containsFuncN_any (g : Nat) (lb : Array Value) (eg : ∀ args w, (callFunc g args).run Tryz.prog w = .ok (.enter g args) w) (v : Value) (ns : List Nd) (p : Nd → Bool) (w : World) (h : Nodes w v ns) (hp : Pred Tryz.prog g lb aggN ns p w) :
    Calls Tryz.prog 67 #[v, .func (.func g) #[] lb] w fun e w' => e = .returned (.bool (ns.any p)) ∧ Below w.heap.size w w' := by
  have hp := Lib.hid hp
  go_enter Tryz.func67, Tryz.ntmps67
  go_wp2_with (go_at_call 94; refine (indexFuncN_any g lb eg _ ns p _ h hp.out).mono ?_; rintro e w' ⟨⟨i, rfl, hi, hd⟩, hb⟩)
  go_ret
  exact ⟨ret_bool hd.out, hb⟩

theorem form_long {ns : List Nd} (h : 40 < ns.length) : formB ns = false := by simp [formB]; omega
theorem form_bad {ns : List Nd} (h : ns.all nodeB = false) : formB ns = false := by simp [formB, h]
theorem form_empty {ns : List Nd} (h : ns.length ≤ 0) : formB ns = false := by simp [formB]; omega
theorem partEnd_len (ns : List Nd) : (partEndL ns 0 = ns.length) ↔ skip ns 1 = some [] := by
  unfold partEndL
  rw [List.drop_zero]
  cases h : skip ns 1 with
  | none => first | (simp; done) | (simp; omega)
  | some r =>
    simp only [Option.some.injEq]
    constructor
    · intro h2
      exact List.eq_nil_of_length_eq_zero (by omega)
    · rintro rfl; simp
theorem form_rest {ns : List Nd} (h1 : 1 ≤ ns.length) (h2 : ns.length ≤ 40) (h3 : ns.all nodeB = true) : formB ns = (partEndL ns 0 == (ns.length : Int)) := by
  rw [Bool.eq_iff_iff, beq_iff_eq, partEnd_len]
  simp [formB, h1, h2, h3]

theorem isFormula1_pred (ns : List Nd) (w : World) : Pred Tryz.prog 92 #[] aggN ns (fun n => !nodeB n) w := by
  intro W n _ _ _
  obtain ⟨x, y⟩ := n
  unfold aggN
  show Calls Tryz.prog 92 #[.agg #[.int .i64 x, .int .i64 y]] W _
  go_enter Tryz.func92, Tryz.ntmps92
  go_wp2_with fail
  refine (isNode_any _ _ _).mono ?_
  rintro e w' ⟨rfl, hb⟩
  go_wp2_with fail
  go_ret
  exact ⟨rfl, ((Below.refl _ _).alloc (Nat.le_refl _) _).trans (hb.mono (by simp))⟩

set_option maxHeartbeats 400000 in
theorem isFormula_any (v : Value) (ns : List Nd) (w : World) (h : Nodes w v ns) :
    Calls Tryz.prog 65 #[v] w fun e w' => e = .returned (.bool (formB ns)) ∧ Below w.heap.size w w' := by
  have hv := Lib.hid h
  obtain ⟨hm, a, c, b, o, rfl, hc, h0, hcell⟩ := h.opened
  unfold maxLen at hm
  clear h h0 hcell
  have heg := Lib.hid (enters_of Tryz.func92 (by kernel_rfl) rfl)
  by_cases h1 : ns.length ≤ 0
  · have hf := Lib.hid (form_empty h1)
    go_enter Tryz.func65, Tryz.ntmps65
    go_wp2_with fail
    go_ret
    exact ⟨ret_bool hf.out.symm, Below.refl _ _⟩
  · by_cases h2 : 40 < ns.length
    · have hf := Lib.hid (form_long h2)
      go_enter Tryz.func65, Tryz.ntmps65
      go_wp2_with fail
      go_ret
      exact ⟨ret_bool hf.out.symm, Below.refl _ _⟩
    · have hna := Lib.hid (not_any ns nodeB)
      cases h3 : ns.all nodeB
      · have hf := Lib.hid (form_bad h3)
        have hany : (ns.any fun n => !nodeB n) = true := by have := hna.out; rw [h3] at this; simpa using this
        go_enter Tryz.func65, Tryz.ntmps65
        go_wp2_with (go_at_call 67; refine (containsFuncN_any _ _ heg.out _ ns _ _ hv.out (isFormula1_pred ns _)).mono ?_; rintro e w' ⟨rfl, hb⟩)
        go_ret
        exact ⟨ret_bool hf.out.symm, hb⟩
      · have hf := Lib.hid (form_rest (by omega) (by omega) h3)
        have hany : (ns.any fun n => !nodeB n) = false := by have := hna.out; rw [h3] at this; simpa using this
        go_enter Tryz.func65, Tryz.ntmps65
        go_wp2_with (first | (go_at_call 67; refine (containsFuncN_any _ _ heg.out _ ns _ _ hv.out (isFormula1_pred ns _)).mono ?_; rintro e w' ⟨rfl, hb⟩) | (go_at_call 78; refine (partEnd_any _ ns _ _ (hv.out.below hb (Nat.le_refl _)) (by omega) (by omega) (by omega)).mono ?_; rintro e w' ⟨rfl, rfl⟩))
        go_ret
        exact ⟨ret_bool hf.out.symm, hb⟩


theorem nodeB_spec {x y : Int} : nodeB (x, y) = (inR x 0 6 && inR y 0 5 && (decide (x = 0) || decide (y = 0))) := by
  rw [Bool.eq_iff_iff]
  simp only [Bool.and_eq_true, Bool.or_eq_true, decide_eq_true_eq, inR_iff]
  unfold nodeB
  split
  · simp; omega
  · simp; omega

def treeB (ns : List Nd) : Bool := decide (1 ≤ ns.length) && ns.all nodeB && decide (skip ns 1 = some [])
theorem tree_bad {ns : List Nd} (h : ns.all nodeB = false) : treeB ns = false := by simp [treeB, h]
theorem tree_empty {ns : List Nd} (h : ns.length ≤ 0) : treeB ns = false := by simp [treeB]; omega
theorem tree_rest {ns : List Nd} (h1 : 1 ≤ ns.length) (h3 : ns.all nodeB = true) : treeB ns = (partEndL ns 0 == (ns.length : Int)) := by
  rw [Bool.eq_iff_iff, beq_iff_eq, partEnd_len]
  simp [treeB, h1, h3]
theorem form_treeB {ns : List Nd} (h : ns.length ≤ 40) : formB ns = treeB ns := by simp [formB, treeB, h]

set_option maxHeartbeats 1000000 in
theorem l02Tree_any (v : Value) (ns : List Nd) (w : World) (h : Nodes w v ns) (hn : ns.length ≤ 40) :
    Calls Tryz.prog 55 #[v] w fun e w' => e = .returned (.bool (treeB ns)) ∧ w = w' := by
  have hv := Lib.hid h
  obtain ⟨hm, a, c, b, o, rfl, hc, h0, hcell⟩ := h.opened
  clear h hm
  rcases h0 with h0 | ⟨h0, rfl⟩
  all_goals
    go_enter Tryz.func55, Tryz.ntmps55
    go_wp2_with fail
    go_loop [3] (fun i => ∃ k : Nat, k ≤ ns.length ∧ i = .int .i64 k ∧ Hid (∀ i x, i < k → ns[i]? = some x → nodeB x = true)) (fun i => ns.length - (intOf i).toNat)
    case atStart => exact ⟨0, Nat.zero_le _, rfl, fun j x hj => by omega⟩
    case round =>
      obtain ⟨k, hk, rfl, hall⟩ := hrel
      by_cases hlt : k < ns.length
      · all_goals try (exfalso; omega)
        all_goals
          obtain ⟨x, y, hx, hcx, hcy⟩ := hcell.out k hlt
          have hx := Lib.hid hx
          have hnb := Lib.hid (nodeB_spec (x := x) (y := y))
          have hbad := Lib.hid (fun h : nodeB (x, y) = false => tree_bad (all_bad (p := nodeB) hx.out h))
          have hgood := Lib.hid (fun h : nodeB (x, y) = true => show ∀ i z, i < k + 1 → ns[i]? = some z → nodeB z = true from fun i z hi hz => by
            rcases Nat.lt_or_ge i k with h2 | h2
            · exact hall.out i z h2 hz
            · obtain rfl : i = k := by omega
              rw [hx.out] at hz
              obtain rfl := Option.some.inj hz
              exact h)
          cases h1 : inR x 0 6
          · have hf := Lib.hid (hbad.out (by rw [hnb.out, h1]; rfl))
            go_wp2_with (go_at_call 90; refine (l01In_any _ _ _ _).mono ?_; rintro e w' ⟨rfl, rfl⟩)
            go_ret
            exact ⟨ret_bool hf.out.symm, rfl⟩
          · cases h2 : inR y 0 5
            · have hf := Lib.hid (hbad.out (by rw [hnb.out, h1, h2]; rfl))
              go_wp2_with (go_at_call 90; refine (l01In_any _ _ _ _).mono ?_; rintro e w' ⟨rfl, rfl⟩)
              go_ret
              exact ⟨ret_bool hf.out.symm, rfl⟩
            · by_cases h3 : x = 0
              · have hg := Lib.hid (hgood.out (by rw [hnb.out, h1, h2]; simp [h3]))
                have h3' : (x != 0) = false := by simpa using h3
                clear h3
                go_wp2_with (go_at_call 90; refine (l01In_any _ _ _ _).mono ?_; rintro e w' ⟨rfl, rfl⟩)
                go_round
                case rel => exact ⟨k + 1, by omega, by go_num, hg.out⟩
                case measure => simp [intOf]; omega
              · have h3' : (x != 0) = true := by simpa using h3
                by_cases h4 : y = 0
                · have hg := Lib.hid (hgood.out (by rw [hnb.out, h1, h2]; simp [h4]))
                  have h4' : (y != 0) = false := by simpa using h4
                  clear h3 h4
                  go_wp2_with (go_at_call 90; refine (l01In_any _ _ _ _).mono ?_; rintro e w' ⟨rfl, rfl⟩)
                  go_round
                  case rel => exact ⟨k + 1, by omega, by go_num, hg.out⟩
                  case measure => simp [intOf]; omega
                · have h4' : (y != 0) = true := by simpa using h4
                  have hf := Lib.hid (hbad.out (by rw [hnb.out, h1, h2]; simp [h3, h4]))
                  clear h3 h4
                  go_wp2_with (go_at_call 90; refine (l01In_any _ _ _ _).mono ?_; rintro e w' ⟨rfl, rfl⟩)
                  go_ret
                  exact ⟨ret_bool hf.out.symm, rfl⟩
      · obtain rfl : k = ns.length := by omega
        have hga := Lib.hid (all_good hall.out)
        rcases Nat.eq_zero_or_pos ns.length with hz | hz
        · have hf := Lib.hid (tree_empty (show ns.length ≤ 0 by omega))
          have hz : ns.length ≤ 0 := by omega
          go_wp2_with fail
          go_ret
          exact ⟨ret_bool hf.out.symm, rfl⟩
        · have hf := Lib.hid (tree_rest hz hga.out)
          go_wp2_with (go_at_call 91; refine (l02Part_any _ ns _ _ hv.out (by omega) (by omega) (by omega)).mono ?_; rintro e w' ⟨rfl, rfl⟩)
          go_ret
          exact ⟨ret_bool hf.out.symm, rfl⟩

theorem l02Is_any (v : Value) (ns : List Nd) (w : World) (h : Nodes w v ns) :
    Calls Tryz.prog 29 #[v] w fun e w' => e = .returned (.bool (formB ns)) ∧ w = w' := by
  have hv := Lib.hid h
  obtain ⟨hm, a, c, b, o, rfl, hc, h0, hcell⟩ := h.opened
  unfold maxLen at hm
  clear h h0 hcell
  by_cases h2 : 40 < ns.length
  · have hf := Lib.hid (form_long h2)
    go_enter Tryz.func29, Tryz.ntmps29
    go_wp2_with fail
    go_ret
    exact ⟨ret_bool hf.out.symm, rfl⟩
  · have hf := Lib.hid (form_treeB (show ns.length ≤ 40 by omega))
    go_enter Tryz.func29, Tryz.ntmps29
    go_wp2_with (go_at_call 55; refine (l02Tree_any _ ns _ hv.out (by omega)).mono ?_; rintro e w' ⟨rfl, rfl⟩)
    go_ret
    exact ⟨ret_bool hf.out.symm, rfl⟩

end Go.Proofs.YtmhkcicjbgifnaaGreat
