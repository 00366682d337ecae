/- LogicAxioms, of both (written by genlogic.py). -/
import Derived.Test.YtkhbimdahjkgoaaDoorLogic
import Derived.Test.YtkhbimdahjkgoaaDoorTurn
import Derived.Maps.AppendAt
namespace Go.Proofs.YtkhbimdahjkgoaaDoor
open Go.RowKit Go.Sort
set_option linter.unusedVariables false

/-- The first place of a text in a list, or -1. -/
def findI : List Bs → Bs → Int
  | [], _ => -1
  | x :: l, t => if x = t then 0 else (if findI l t < 0 then -1 else findI l t + 1)
theorem findI_no {l : List Bs} {t : Bs} (h : ∀ x ∈ l, x ≠ t) : findI l t = -1 := by
  induction l with
  | nil => rfl
  | cons x l ih =>
    unfold findI
    rw [if_neg (h x List.mem_cons_self), ih fun y hy => h y (List.mem_cons_of_mem _ hy)]
    rfl
theorem findI_at : ∀ (l : List Bs) (t : Bs) (k : Nat), l[k]? = some t → (∀ j x, j < k → l[j]? = some x → x ≠ t) → findI l t = (k : Int) := by
  intro l
  induction l with
  | nil => intro t k h; simp at h
  | cons x l ih =>
    intro t k h hn
    cases k with
    | zero =>
      obtain rfl : x = t := by simpa using h
      unfold findI; rw [if_pos rfl]; rfl
    | succ k =>
      unfold findI
      rw [if_neg (hn 0 x (by omega) rfl), ih t k (by simpa using h) fun j y hj hy => hn (j + 1) y (by omega) (by simpa using hy)]
      rw [if_neg (by omega)]
      omega
theorem findI_range (l : List Bs) (t : Bs) : findI l t = -1 ∨ ∃ k : Nat, k < l.length ∧ findI l t = (k : Int) := by
  induction l with
  | nil => exact .inl rfl
  | cons x l ih =>
    unfold findI
    by_cases h : x = t
    · rw [if_pos h]; exact .inr ⟨0, by simp, rfl⟩
    · rw [if_neg h]
      rcases ih with ih | ⟨k, hk, ih⟩
      · rw [ih]; exact .inl rfl
      · rw [ih, if_neg (by omega)]; exact .inr ⟨k + 1, by simpa using hk, by omega⟩

set_option maxHeartbeats 1000000 in
theorem l09Find_any (v : Value) (ss : List Bs) (S : ByteArray) (w : World) (h : StrL w v ss) :
    Calls Tryd.prog 16 #[v, .string S] w fun e w' => e = .returned (.int .i64 (findI ss (byS S))) ∧ w = w' := by
  obtain ⟨hm, a, c, b, o, rfl, hc, h0, hcell⟩ := h.opened
  unfold maxLen at hm
  clear h
  have hcmp := Lib.hid (show ∀ x : Bs, ((⟨x.toArray⟩ : ByteArray).toList == S.toList) = decide (x = byS S) ∧ (S.toList == (⟨x.toArray⟩ : ByteArray).toList) = decide (x = byS S) from fun x => by
    rw [ByteArray.toList_eq, ByteArray.toList_eq]
    refine ⟨by rw [Bool.eq_iff_iff, beq_iff_eq, decide_eq_true_eq]; exact Iff.rfl, ?_⟩
    rw [Bool.eq_iff_iff, beq_iff_eq, decide_eq_true_eq]
    exact ⟨fun h => h.symm, fun h => h.symm⟩)
  have hat := Lib.hid (findI_at ss (byS S))
  have hno := Lib.hid (@findI_no ss (byS S))
  rcases h0 with h0 | ⟨h0, rfl⟩
  all_goals
    go_enter Tryd.func16, Tryd.ntmps16
    go_wp2_with fail
    go_loop [5] (fun i => ∃ k : Nat, k ≤ ss.length ∧ i = .int .i64 k ∧ Hid (∀ j x, j < k → ss[j]? = some x → x ≠ byS S)) (fun i => ss.length - (intOf i).toNat)
    case atStart => exact ⟨0, Nat.zero_le _, rfl, fun j x hj => by omega⟩
    case round =>
      obtain ⟨k, hk, rfl, hall⟩ := hrel
      by_cases hlt : k < ss.length
      · all_goals try (exfalso; omega)
        all_goals
          obtain ⟨x, hx, hcx⟩ := hcell.out k hlt
          have hx := Lib.hid hx
          obtain ⟨hl1, hl2⟩ := hcmp.out x
          unfold encStr at hcx
          rename_i hx'
          clear hx'
          generalize (⟨x.toArray⟩ : ByteArray) = X at *
          by_cases he : x = byS S
          · rw [decide_eq_true he] at hl1 hl2
            have hf := Lib.hid (hat.out k (by rw [hx.out, he]) hall.out)
            clear he
            go_wp2_with fail
            go_ret
            exact ⟨ret_int hf.out.symm, rfl⟩
          · rw [decide_eq_false he] at hl1 hl2
            have hne := Lib.hid he
            clear he
            go_wp2_with fail
            go_round
            case rel =>
              refine ⟨k + 1, by omega, by go_num, fun j z hj hz => ?_⟩
              rcases Nat.lt_or_ge j k with h2 | h2
              · exact hall.out j z h2 hz
              · obtain rfl : j = k := by omega
                rw [hx.out] at hz
                obtain rfl := Option.some.inj hz
                exact hne.out
            case measure => simp [intOf]; omega
      · obtain rfl : k = ss.length := by omega
        have hf := Lib.hid (hno.out fun x hx => by
          obtain ⟨j, hj⟩ := List.getElem?_of_mem hx
          exact hall.out j x (List.getElem?_eq_some_iff.1 hj).1 hj)
        go_wp2_with fail
        go_ret
        exact ⟨ret_int hf.out.symm, rfl⟩

set_option maxHeartbeats 1000000 in
theorem indexS_any (v : Value) (ss : List Bs) (S : ByteArray) (w : World) (h : StrL w v ss) :
    Calls Tryd.prog 21 #[v, .string S] w fun e w' => e = .returned (.int .i64 (findI ss (byS S))) ∧ w = w' := by
  obtain ⟨hm, a, c, b, o, rfl, hc, h0, hcell⟩ := h.opened
  unfold maxLen at hm
  clear h
  have hcmp := Lib.hid (show ∀ x : Bs, ((⟨x.toArray⟩ : ByteArray).toList == S.toList) = decide (x = byS S) ∧ (S.toList == (⟨x.toArray⟩ : ByteArray).toList) = decide (x = byS S) from fun x => by
    rw [ByteArray.toList_eq, ByteArray.toList_eq]
    refine ⟨by rw [Bool.eq_iff_iff, beq_iff_eq, decide_eq_true_eq]; exact Iff.rfl, ?_⟩
    rw [Bool.eq_iff_iff, beq_iff_eq, decide_eq_true_eq]
    exact ⟨fun h => h.symm, fun h => h.symm⟩)
  have hat := Lib.hid (findI_at ss (byS S))
  have hno := Lib.hid (@findI_no ss (byS S))
  rcases h0 with h0 | ⟨h0, rfl⟩
  all_goals
    go_enter Tryd.func21, Tryd.ntmps21
    go_wp2_with fail
    go_loop [8] (fun i => ∃ k : Nat, k ≤ ss.length ∧ i = .int .i64 k ∧ Hid (∀ j x, j < k → ss[j]? = some x → x ≠ byS S)) (fun i => ss.length - (intOf i).toNat)
    case atStart => exact ⟨0, Nat.zero_le _, rfl, fun j x hj => by omega⟩
    case round =>
      obtain ⟨k, hk, rfl, hall⟩ := hrel
      by_cases hlt : k < ss.length
      · all_goals try (exfalso; omega)
        all_goals
          obtain ⟨x, hx, hcx⟩ := hcell.out k hlt
          have hx := Lib.hid hx
          obtain ⟨hl1, hl2⟩ := hcmp.out x
          unfold encStr at hcx
          rename_i hx'
          clear hx'
          generalize (⟨x.toArray⟩ : ByteArray) = X at *
          by_cases he : x = byS S
          · rw [decide_eq_true he] at hl1 hl2
            have hf := Lib.hid (hat.out k (by rw [hx.out, he]) hall.out)
            clear he
            go_wp2_with fail
            go_ret
            exact ⟨ret_int hf.out.symm, rfl⟩
          · rw [decide_eq_false he] at hl1 hl2
            have hne := Lib.hid he
            clear he
            go_wp2_with fail
            go_round
            case rel =>
              refine ⟨k + 1, by omega, by go_num, fun j z hj hz => ?_⟩
              rcases Nat.lt_or_ge j k with h2 | h2
              · exact hall.out j z h2 hz
              · obtain rfl : j = k := by omega
                rw [hx.out] at hz
                obtain rfl := Option.some.inj hz
                exact hne.out
            case measure => simp [intOf]; omega
      · obtain rfl : k = ss.length := by omega
        have hf := Lib.hid (hno.out fun x hx => by
          obtain ⟨j, hj⟩ := List.getElem?_of_mem hx
          exact hall.out j x (List.getElem?_eq_some_iff.1 hj).1 hj)
        go_wp2_with fail
        go_ret
        exact ⟨ret_int hf.out.symm, rfl⟩

theorem info_string : (Tryd.prog.info? 9).map (fun i => (i.zero, i.size, i.bytes)) = some (some (.string ByteArray.empty), 1, 16) := by kernel_rfl
theorem lgN_get {k : Nat} (hk : k < 16) : lgN[k]? = some (lgN.getD k []) := by
  have hk' : k < lgN.length := hk
  rw [List.getD_eq_getElem?_getD, List.getElem?_eq_getElem hk']; rfl

set_option maxHeartbeats 2000000 in
theorem logicNames_any (w : World) (ht : LgTab w) (hM : MaxL w) :
    Calls Tryd.prog 22 #[] w fun e w' => ∃ v, e = .returned v ∧ StrL w' v lgN ∧ RowKit.Below w.heap.size w w' := by
  obtain ⟨i0, hi, hz0, hz1, hz2⟩ := info_parts info_string
  have hrow := Lib.hid (fun (k : Nat) (hk : k < 16) (W : World) (hW : RowKit.Below w.heap.size w W) => logicRow_any k hk W (ht.below hW (Nat.le_refl _)) (hM.below hW (Nat.le_refl _)))
  clear ht hM
  go_enter Tryd.func22, Tryd.ntmps22
  go_wp2_with fail
  go_loopw [1, 3] (fun v i wr => ∃ k : Nat, k ≤ 16 ∧ i = .int .i64 k ∧ Hid (wr.ownsRow w.heap.size 9 1 v k ((lgN.take k).map encStr)) ∧ RowKit.Below w.heap.size w wr) (fun _ i _ => 16 - (intOf i).toNat)
  case atStart => exact ⟨0, by omega, rfl, Lib.hid (World.ownsRow_nil _ _ _ _), RowKit.Below.refl _ _⟩
  case round =>
    obtain ⟨k, hk, rfl, ho, hb⟩ := hrel
    by_cases hlt : k < 16
    · have hki : (k : Int) < 16 := by omega
      have hr := Lib.hid (hrow.out k hlt wr hb)
      have hcell := lgRow_cell wr k 9
      have hnl := (lgRow_len hlt).1
      have htk := Lib.hid (show lgN.take (k + 1) = lgN.take k ++ [lgN.getD k []] by rw [List.take_add_one, lgN_get hlt]; rfl)
      have hzr := hb.size
      have B1 := Lib.hid (hb.alloc hb.size (.cells ((lgRow k).map encStr).toArray 9))
      have ho1 := own_below ho.out ((RowKit.Below.refl wr.heap.size wr).alloc (Nat.le_refl _) (.cells ((lgRow k).map encStr).toArray 9)) (Nat.le_refl _)
      unfold encStr at hcell
      generalize hW1 : wr.alloc (.cells ((lgRow k).map encStr).toArray 9) = W1 at *
      clear hW1
      have henc := Lib.hid (show encStr (lgN.getD k []) = .string ⟨(lgN.getD k []).toArray⟩ from rfl)
      generalize (⟨(lgN.getD k []).toArray⟩ : ByteArray) = S at *
      generalize (lgRow k).length = n at *
      have hz1' : w.heap.size ≤ W1.heap.size := B1.out.size
      have B2 := Lib.hid (B1.out.alloc hz1' (.cells #[.string S] 9))
      have ho2 := Lib.hid (own_below ho1 ((RowKit.Below.refl W1.heap.size W1).alloc (Nat.le_refl _) (.cells #[.string S] 9)) (Nat.le_refl _))
      have hnew := Lib.hid (cell_one_new W1 (.string S) 9)
      have hz2' : w.heap.size ≤ (W1.alloc (.cells #[.string S] 9)).heap.size := B2.out.size
      clear ho ho1 hb
      go_wp2_with fail
      refine hr.out.mono ?_
      rintro e w' ⟨rfl, rfl⟩
      go_wp2_with (at_builtin; refine wpList_append_own_at _ rfl _ _ 25 rfl w.heap.size 9 i0 (.string ByteArray.empty) 1 16 Tryd.underlying25 hi hz0 hz1 hz2 rfl (by decide) _ k ((lgN.take k).map encStr) rfl ho2.out ⟨W1.heap.size, 0, none⟩ 1 1 [.string S] rfl rfl hnew.out (by simp [Value.oneCell']) (by unfold maxLen; omega) (by omega) hz2' ?_; intro v5 w5 hown5 hgrow5 _ hblk5)
      have B5 := Lib.hid (B2.out.grown hgrow5 hz2' (fun j hj => (ho2.out.lt j hj).1))
      have ho5 := Lib.hid (show w5.ownsRow w.heap.size 9 1 v5 (k + 1) ((lgN.take (k + 1)).map encStr) from by
        rw [htk.out, List.map_append, List.map_cons, List.map_nil, henc.out]
        exact hown5)
      clear hown5 hgrow5 hblk5 ho2 hnew
      go_roundw
      case rel => exact ⟨k + 1, by omega, by go_num, ho5, B5.out⟩
      case measure => simp [intOf]; omega
    · obtain rfl : k = 16 := by omega
      have hs := Lib.hid (strL_of_own ho.out)
      have e9 : lgN.take 16 = lgN := rfl
      rw [e9] at hs
      go_wp2_with fail
      go_ret
      exact ⟨_, rfl, hs.out, hb⟩
end Go.Proofs.YtkhbimdahjkgoaaDoor
