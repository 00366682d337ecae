/- SubformulasOf: the reference's walk. -/
import Derived.Test.YtkhbimdahjkgoaaSubfMath
import Derived.Test.YtkhbimdahjkgoaaSubf
import Derived.Test.YtkhbimdahjkgoaaTextThree
import Derived.Deep.CutRange
import Derived.Deep.Cut
import Derived.Deep.DeepCutAuto
namespace Go.Proofs.Ytkhbimdahjkgoaa
open Go.RowKit Go.Deep
set_option linter.unusedVariables false

/-- A slice of strings that is not nil. -/
def StrA (w : World) (v : Value) (ss : List Bs) : Prop := ∃ b o c, v = .slice (some ⟨b, o, none⟩) ss.length c ∧ ss.length ≤ c ∧ ss.length ≤ 1000 ∧ ∀ (j : Nat) (x : Bs), ss[j]? = some x → w.cell? ⟨b, o + j, none⟩ = some (encStr x)
theorem StrA.below {w w' : World} {v : Value} {ss : List Bs} {K : Nat} (h : StrA w v ss) (hb : Below K w w') (hk : w.heap.size ≤ K) : StrA w' v ss := by
  obtain ⟨b, o, c, rfl, hc, hl, hcell⟩ := h
  refine ⟨b, o, c, rfl, hc, hl, fun j x hx => ?_⟩
  have h3 := hcell j x hx
  have hlt : b < w.heap.size := World.block_lt_of_cell? w _ h3
  exact (hb.cell (p := ⟨b, o + j, none⟩) (by show b < K; omega)).trans h3
theorem StrA.strL {w : World} {v : Value} {ss : List Bs} (h : StrA w v ss) : StrL w v ss := by
  obtain ⟨b, o, c, rfl, hc, hl, hcell⟩ := h
  refine ⟨by simp, by unfold maxLen; omega, _, c, b, o, rfl, hc, fun _ => rfl, fun i u hu => ?_⟩
  rw [List.getElem?_map, Option.map_eq_some_iff] at hu
  obtain ⟨x, hx, rfl⟩ := hu
  exact hcell i x hx
theorem strA_of_own {w : World} {B : Nat} {e : TypeId} {v : Value} {n : Nat} {ss : List Bs} (h : w.ownsRow B e 1 v n (ss.map encStr)) (h0 : 0 < n) (hn : n ≤ 1000) : StrA w v ss := by
  have hl : ss.length = n := by have := h.1; simpa using this
  rcases h.2 with ⟨_, h2⟩ | ⟨g, cap, cur, rfl, hB, hg, hc, _⟩
  · omega
  · refine ⟨g, 0, cap, by rw [hl], by omega, by omega, fun j x hx => ?_⟩
    have hj : j < n := by rw [← hl]; exact (List.getElem?_eq_some_iff.1 hx).1
    rw [Nat.zero_add, h.cellAt j (by omega), List.getElem?_map, hx]; rfl
theorem strs_oneCell (ss : List Bs) : ∀ u ∈ ss.map encStr, u.oneCell' = true := by
  intro u hu
  obtain ⟨x, _, rfl⟩ := List.mem_map.1 hu
  rfl
theorem nodes_sub {w : World} {bb ob cb T m c : Nat} {b : List Nd} (h : Nodes w (.slice (some ⟨bb, ob, none⟩) b.length cb) b) (hp : 0 < b.length) (hm1 : T + m ≤ b.length) (hc : m ≤ c) (hx : b.length ≤ 40) : Nodes w (.slice (some ⟨bb, ob + T * 2, none⟩) m c) ((b.drop T).take m) := by
  obtain ⟨c', b', o', he, _, hcm, hcell⟩ := h.raw hp
  injection he with h1 h2 h3
  obtain ⟨rfl, rfl⟩ : bb = b' ∧ ob = o' := by simpa using h1
  have hlen : ((b.drop T).take m).length = m := by rw [List.length_take, List.length_drop]; omega
  unfold Nodes
  rw [hlen]
  refine ⟨by rw [cellsN_length, hlen], by unfold maxLen; omega, _, c, bb, ob + T * 2, rfl, hc, fun _ => rfl, fun i u hu => ?_⟩
  rw [cellsN_take, cellsN_drop, List.getElem?_take] at hu
  split at hu
  · rw [List.getElem?_drop] at hu
    have := hcell.out _ u hu
    rw [show ob + T * 2 + i = ob + (T * 2 + i) by omega]
    exact this
  · cases hu

set_option maxHeartbeats 4000000 in
set_option maxRecDepth 100000 in
theorem l02Insert_any (v : Value) (ss : List Bs) (S : ByteArray) (w : World) (h : StrA w v ss) (hl : ss.length ≤ 100) :
    Calls Try.prog 21 #[v, .string S] w fun e w' => ∃ v', e = .returned v' ∧ StrA w' v' (insU (fun x y : Bs => x < y) ss (byS S)) ∧ Below w.heap.size w w' := by
  obtain ⟨i0, hi, hz0, hz1, hz2⟩ := info_parts info_string
  have hh := Lib.hid h
  obtain ⟨b, o, c, rfl, hc, _, hcell⟩ := h
  replace hcell := Lib.hid hcell
  have hend := Lib.hid (insU_at (fun x y : Bs => x < y) ss (byS S))
  have hcmp := Lib.hid (show ∀ x : Bs, Op.bytesLess (⟨x.toArray⟩ : ByteArray).toList S.toList = decide (x < byS S) ∧ ((⟨x.toArray⟩ : ByteArray).toList == S.toList) = decide (x = byS S) from fun x => by
    rw [ByteArray.toList_eq, ByteArray.toList_eq, bytesLess_eq]
    exact ⟨rfl, by rw [Bool.eq_iff_iff, beq_iff_eq, decide_eq_true_eq]; exact Iff.rfl⟩)
  generalize hn : ss.length = n at *
  replace hn := Lib.hid hn
  go_enter Try.func21, Try.ntmps21
  go_wp2_with fail
  go_loop [5] (fun i => ∃ k : Nat, k ≤ n ∧ i = .int .i64 k ∧ Hid (∀ j x, j < k → ss[j]? = some x → x < byS S)) (fun i => n - (intOf i).toNat)
  case atStart => exact ⟨0, Nat.zero_le _, rfl, fun j x hj => by omega⟩
  case round =>
    obtain ⟨k, hk, rfl, hall⟩ := hrel
    by_cases hlt : k < n
    · obtain ⟨x, hx⟩ : ∃ x, ss[k]? = some x := ⟨ss[k]'(by rw [hn.out]; exact hlt), List.getElem?_eq_getElem _⟩
      have hcx := hcell.out k x hx
      obtain ⟨hl1, hl2⟩ := hcmp.out x
      unfold encStr at hcx
      have hx := Lib.hid hx
      generalize (⟨x.toArray⟩ : ByteArray) = X at *
      by_cases hless : x < byS S
      · rw [decide_eq_true hless] at hl1
        have hall2 := Lib.hid (show ∀ j y, j < k + 1 → ss[j]? = some y → y < byS S from fun j y hj hy => by
          rcases Nat.lt_or_ge j k with h1 | h1
          · exact hall.out j y h1 hy
          · obtain rfl : j = k := by omega
            rw [hx.out] at hy
            cases hy
            exact hless)
        clear hl2 hless
        go_wp2_with fail
        go_round
        case rel => exact ⟨k + 1, by omega, by go_num, hall2⟩
        case measure => simp [intOf]; omega
      · rw [decide_eq_false hless] at hl1
        have hres := hend.out k (by omega) hall.out (fun y hy => by rw [hx.out] at hy; cases hy; exact hless)
        by_cases heq : x = byS S
        · rw [decide_eq_true heq] at hl2
          rw [hx.out, heq, if_pos rfl] at hres
          have hres := Lib.hid hres
          have hn9 := hn.out
          rename_i hres'
          clear hres' hless heq
          go_wp2_with fail
          go_ret
          exact ⟨_, rfl, by rw [hres.out]; exact hh.out, Below.refl _ _⟩
        · rw [decide_eq_false heq] at hl2
          rw [hx.out, if_neg (fun e => heq (Option.some.inj e))] at hres
          replace hres := Lib.hid hres
          clear hless heq
          have hkn : (k : Int) ≤ (n : Int) := by omega
          have hkc : (k : Int) ≤ (c : Int) := by omega
          have htl := Lib.hid (show ((ss.take k).map encStr).length = k * 1 by rw [List.length_map, List.length_take, hn.out]; omega)
          have hdl := Lib.hid (show ((ss.drop k).map encStr).length = (n - k) * 1 by rw [List.length_map, List.length_drop, hn.out]; omega)
          have hto := Lib.hid (strs_oneCell (ss.take k))
          have hdo := Lib.hid (strs_oneCell (ss.drop k))
          obtain ⟨ad, had, hsrc0⟩ : ∃ ad : Addr, (if c = k then some (⟨b, o, none⟩ : Addr) else some ⟨b, o + k, none⟩) = some ad ∧ ∀ j u, ((ss.drop k).map encStr)[j]? = some u → w.cell? (ad.add j) = some u := by
            by_cases hcc : c = k
            · refine ⟨_, if_pos hcc, fun j u hu => ?_⟩
              rw [List.drop_of_length_le (by rw [hn.out]; omega)] at hu
              cases j <;> cases hu
            · refine ⟨_, if_neg hcc, fun j u hu => ?_⟩
              rw [List.getElem?_map, Option.map_eq_some_iff] at hu
              obtain ⟨x9, hx9, rfl⟩ := hu
              rw [List.getElem?_drop] at hx9
              rw [Addr.add_lit, show o + k + j = o + (k + j) by omega]
              exact hcell.out _ x9 hx9
          have hsrc3 := Lib.hid (fun W (hW : Below w.heap.size w W) => show ∀ j u, ((ss.drop k).map encStr)[j]? = some u → W.cell? (ad.add j) = some u from fun j u hu => keep_cell hW (hsrc0 j u hu))
          obtain rfl : ad = ⟨b, o + k, none⟩ := by rw [if_neg (by omega)] at had; exact (Option.some.inj had).symm
          clear had
          have hsrc1 := Lib.hid (fun W (hW : Below w.heap.size w W) => show ∀ j u, ((ss.take k).map encStr)[j]? = some u → W.cell? ((⟨b, o, none⟩ : Addr).add j) = some u from fun j u hu => by
            rw [List.getElem?_map, Option.map_eq_some_iff] at hu
            obtain ⟨x9, hx9, rfl⟩ := hu
            rw [List.getElem?_take] at hx9
            split at hx9
            · rw [Addr.add_lit]; exact keep_cell hW (hcell.out _ x9 hx9)
            · cases hx9)
          have hl0 := Lib.hid (World.ownsRow_lit (e := 9) (base := w.heap.size) (size := 1) w #[] 0 (Nat.le_refl _) (by simp [maxLen]) rfl)
          have B0 := Lib.hid ((Below.refl w.heap.size w).alloc (Nat.le_refl _) (.cells #[] 9))
          have hfin := Lib.hid (show ∀ (W : World) (v' : Value), W.ownsRow w.heap.size 9 1 v' (k + 1 + (n - k)) ((ss.take k).map encStr ++ [.string S] ++ (ss.drop k).map encStr) → StrA W v' (insU (fun x y : Bs => x < y) ss (byS S)) from fun W v' h9 => by
            have e9 : (ss.take k).map encStr ++ [.string S] ++ (ss.drop k).map encStr = (insU (fun x y : Bs => x < y) ss (byS S)).map encStr := by
              rw [hres.out]; simp [enc_byS]
            rw [e9] at h9
            exact strA_of_own h9 (by omega) (by omega))
          have hmax1 : 0 + k ≤ maxLen := by unfold maxLen; omega
          have hmax2 : k + 1 ≤ maxLen := by unfold maxLen; omega
          have hmax3 : k + 1 + (n - k) ≤ maxLen := by unfold maxLen; omega
          clear hsrc0
          generalize (ss.drop k).map encStr = dropped at *
          generalize (ss.take k).map encStr = taken at *
          go_upto_region 7 with (at_builtin; refine wpList_append_own_at _ rfl _ _ 24 rfl w.heap.size 9 i0 (.string ByteArray.empty) 1 16 Try.underlying24 hi hz0 hz1 hz2 rfl (by decide) _ 0 [] rfl hl0.out ⟨b, o, none⟩ k c taken rfl htl.out (hsrc1.out _ B0.out) hto.out hmax1 (by omega) (by simp) ?_; intro v1 w1 hown1 hgrow1 _ hblk1)
          rw [Nat.zero_add, List.nil_append] at hown1
          have B1 := Lib.hid (B0.out.grown hgrow1 (by simp) (fun j hj => (hl0.out.lt j hj).1))
          have hz1' := B1.out.size
          have B2 := Lib.hid (B1.out.alloc hz1' (.cells #[.string S] 9))
          have hown2 := Lib.hid (own_below hown1 ((Below.refl w1.heap.size w1).alloc (Nat.le_refl _) (.cells #[.string S] 9)) (Nat.le_refl _))
          have hnew := Lib.hid (cell_one_new w1 (.string S) 9)
          have hz2' : w.heap.size ≤ (w1.alloc (.cells #[.string S] 9)).heap.size := B2.out.size
          clear hown1 hgrow1 hblk1
          go_upto_region 8 with (at_builtin; refine wpList_append_own_at _ rfl _ _ 24 rfl w.heap.size 9 i0 (.string ByteArray.empty) 1 16 Try.underlying24 hi hz0 hz1 hz2 rfl (by decide) v1 k taken rfl hown2.out ⟨w1.heap.size, 0, none⟩ 1 1 [.string S] rfl rfl hnew.out (by simp [Value.oneCell']) hmax2 (by omega) hz2' ?_; intro v3 w3 hown3 hgrow3 _ hblk3)
          have B3 := Lib.hid (B2.out.grown hgrow3 hz2' (fun j hj => (hown2.out.lt j hj).1))
          have hz3' := B3.out.size
          have hown3 := Lib.hid hown3
          clear hgrow3 hblk3
          go_wp2_with (at_builtin; refine wpList_append_own_at _ rfl _ _ 24 rfl w.heap.size 9 i0 (.string ByteArray.empty) 1 16 Try.underlying24 hi hz0 hz1 hz2 rfl (by decide) v3 (k + 1) (taken ++ [.string S]) rfl hown3.out ⟨b, o + k, none⟩ (n - k) _ dropped rfl hdl.out (hsrc3.out _ B3.out) hdo.out hmax3 (by omega) hz3' ?_; intro v4 w4 hown4 hgrow4 _ hblk4)
          have B4 := Lib.hid (B3.out.grown hgrow4 hz3' (fun j hj => (hown3.out.lt j hj).1))
          have hres4 := Lib.hid (hfin.out _ _ hown4)
          clear hgrow4 hblk4 hown4
          go_wp2_with fail
          go_ret
          exact ⟨v4, rfl, hres4.out, B4.out⟩
    · obtain rfl : k = n := by omega
      have hres := hend.out k (Nat.le_refl _) hall.out (fun y hy => by rw [List.getElem?_eq_none (by rw [hn.out]; exact Nat.le_refl _)] at hy; cases hy)
      rw [List.getElem?_eq_none (by rw [hn.out]; exact Nat.le_refl _), if_neg (by simp)] at hres
      have hres := Lib.hid hres
      rename_i hres'
      clear hres'
      have hkn : (k : Int) ≤ (k : Int) := by omega
      have hkc : (k : Int) ≤ (c : Int) := by omega
      have htl := Lib.hid (show ((ss.take k).map encStr).length = k * 1 by rw [List.length_map, List.length_take, hn.out]; omega)
      have hdl := Lib.hid (show ((ss.drop k).map encStr).length = 0 * 1 by rw [List.length_map, List.length_drop, hn.out]; omega)
      have hto := Lib.hid (strs_oneCell (ss.take k))
      have hdo := Lib.hid (strs_oneCell (ss.drop k))
      obtain ⟨ad, had, hsrc0⟩ : ∃ ad : Addr, (if c = k then some (⟨b, o, none⟩ : Addr) else some ⟨b, o + k, none⟩) = some ad ∧ ∀ j u, ((ss.drop k).map encStr)[j]? = some u → w.cell? (ad.add j) = some u := by
        by_cases hcc : c = k
        · refine ⟨_, if_pos hcc, fun j u hu => ?_⟩
          rw [List.drop_of_length_le (by rw [hn.out]; omega)] at hu
          cases j <;> cases hu
        · refine ⟨_, if_neg hcc, fun j u hu => ?_⟩
          rw [List.getElem?_map, Option.map_eq_some_iff] at hu
          obtain ⟨x9, hx9, rfl⟩ := hu
          rw [List.getElem?_drop] at hx9
          rw [Addr.add_lit, show o + k + j = o + (k + j) by omega]
          exact hcell.out _ x9 hx9
      have hsrc3 := Lib.hid (fun W (hW : Below w.heap.size w W) => show ∀ j u, ((ss.drop k).map encStr)[j]? = some u → W.cell? (ad.add j) = some u from fun j u hu => keep_cell hW (hsrc0 j u hu))
      have hsrc1 := Lib.hid (fun W (hW : Below w.heap.size w W) => show ∀ j u, ((ss.take k).map encStr)[j]? = some u → W.cell? ((⟨b, o, none⟩ : Addr).add j) = some u from fun j u hu => by
        rw [List.getElem?_map, Option.map_eq_some_iff] at hu
        obtain ⟨x9, hx9, rfl⟩ := hu
        rw [List.getElem?_take] at hx9
        split at hx9
        · rw [Addr.add_lit]; exact keep_cell hW (hcell.out _ x9 hx9)
        · cases hx9)
      have hl0 := Lib.hid (World.ownsRow_lit (e := 9) (base := w.heap.size) (size := 1) w #[] 0 (Nat.le_refl _) (by simp [maxLen]) rfl)
      have B0 := Lib.hid ((Below.refl w.heap.size w).alloc (Nat.le_refl _) (.cells #[] 9))
      have hfin := Lib.hid (show ∀ (W : World) (v' : Value), W.ownsRow w.heap.size 9 1 v' (k + 1 + 0) ((ss.take k).map encStr ++ [.string S] ++ (ss.drop k).map encStr) → StrA W v' (insU (fun x y : Bs => x < y) ss (byS S)) from fun W v' h9 => by
        have e9 : (ss.take k).map encStr ++ [.string S] ++ (ss.drop k).map encStr = (insU (fun x y : Bs => x < y) ss (byS S)).map encStr := by
          rw [hres.out]; simp [enc_byS]
        rw [e9] at h9
        exact strA_of_own h9 (by omega) (by omega))
      have hmax1 : 0 + k ≤ maxLen := by unfold maxLen; omega
      have hmax2 : k + 1 ≤ maxLen := by unfold maxLen; omega
      have hmax3 : k + 1 + 0 ≤ maxLen := by unfold maxLen; omega
      clear hsrc0
      generalize (ss.drop k).map encStr = dropped at *
      generalize (ss.take k).map encStr = taken at *
      go_upto_region 7 with (at_builtin; refine wpList_append_own_at _ rfl _ _ 24 rfl w.heap.size 9 i0 (.string ByteArray.empty) 1 16 Try.underlying24 hi hz0 hz1 hz2 rfl (by decide) _ 0 [] rfl hl0.out ⟨b, o, none⟩ k c taken rfl htl.out (hsrc1.out _ B0.out) hto.out hmax1 (by omega) (by simp) ?_; intro v1 w1 hown1 hgrow1 _ hblk1)
      rw [Nat.zero_add, List.nil_append] at hown1
      have B1 := Lib.hid (B0.out.grown hgrow1 (by simp) (fun j hj => (hl0.out.lt j hj).1))
      have hz1' := B1.out.size
      have B2 := Lib.hid (B1.out.alloc hz1' (.cells #[.string S] 9))
      have hown2 := Lib.hid (own_below hown1 ((Below.refl w1.heap.size w1).alloc (Nat.le_refl _) (.cells #[.string S] 9)) (Nat.le_refl _))
      have hnew := Lib.hid (cell_one_new w1 (.string S) 9)
      have hz2' : w.heap.size ≤ (w1.alloc (.cells #[.string S] 9)).heap.size := B2.out.size
      clear hown1 hgrow1 hblk1
      go_upto_region 8 with (at_builtin; refine wpList_append_own_at _ rfl _ _ 24 rfl w.heap.size 9 i0 (.string ByteArray.empty) 1 16 Try.underlying24 hi hz0 hz1 hz2 rfl (by decide) v1 k taken rfl hown2.out ⟨w1.heap.size, 0, none⟩ 1 1 [.string S] rfl rfl hnew.out (by simp [Value.oneCell']) hmax2 (by omega) hz2' ?_; intro v3 w3 hown3 hgrow3 _ hblk3)
      have B3 := Lib.hid (B2.out.grown hgrow3 hz2' (fun j hj => (hown2.out.lt j hj).1))
      have hz3' := B3.out.size
      have hown3 := Lib.hid hown3
      clear hgrow3 hblk3
      go_wp2_with (at_builtin; refine wpList_append_own_at _ rfl _ _ 24 rfl w.heap.size 9 i0 (.string ByteArray.empty) 1 16 Try.underlying24 hi hz0 hz1 hz2 rfl (by decide) v3 (k + 1) (taken ++ [.string S]) rfl hown3.out ad 0 _ dropped rfl hdl.out (hsrc3.out _ B3.out) hdo.out hmax3 (by omega) hz3' ?_; intro v4 w4 hown4 hgrow4 _ hblk4)
      have B4 := Lib.hid (B3.out.grown hgrow4 hz3' (fun j hj => (hown3.out.lt j hj).1))
      have hres4 := Lib.hid (hfin.out _ _ hown4)
      clear hgrow4 hblk4 hown4
      go_wp2_with fail
      go_ret
      exact ⟨v4, rfl, hres4.out, B4.out⟩

set_option maxHeartbeats 2000000 in
theorem l02Sub_any (v : Value) (a : List Nd) (w : World) (h : Nodes w v a) (hf : formB a = true) :
    Calls Try.prog 14 #[v] w fun e w' => ∃ v', e = .returned v' ∧ StrA w' v' (sfL a) ∧ Below w.heap.size w w' := by
  have hlen : 0 < a.length ∧ a.length ≤ 40 := by simp only [formB, Bool.and_eq_true, decide_eq_true_eq] at hf; omega
  have hround := Lib.hid (fun (k : Nat) (hk : k < a.length) => part_tree hf hk)
  obtain ⟨c, b, o, rfl, hc, _, hcell⟩ := h.raw hlen.1
  have hnd := Lib.hid (fun (i m : Nat) (W : World) (hW : Below w.heap.size w W) (h1 : i + m ≤ a.length) => nodes_sub (c := c - i) (T := i) (m := m) (h.below hW (Nat.le_refl _)) hlen.1 h1 (by omega) hlen.2)
  have hpt := Lib.hid (fun (i m : Nat) (W : World) (hW : Below w.heap.size w W) (h1 : partEndL a i = ((i + m : Nat) : Int)) (h2 : i < a.length) => show Calls Try.prog 23 #[.slice (some ⟨b, o, none⟩) a.length c, .int .i64 (i : Int)] W fun e w' => e = .returned (.int .i64 ((i + m : Nat) : Int)) ∧ W = w' from by
    have h9 := l02Part_any _ a (i : Int) W (h.below hW (Nat.le_refl _)) (by omega) (by omega) (by omega)
    rw [Int.toNat_natCast, h1] at h9
    exact h9)
  have hall := Lib.hid (fun (k : Nat) (hk : k < a.length) => allU_succ (fun x y : Bs => x < y) (subT a) k _ (subT_get a k hk))
  have hlenU := Lib.hid (fun (k : Nat) => show (allU (fun x y : Bs => x < y) ((subT a).take k)).length ≤ 40 from by
    have h1 : (allU (fun x y : Bs => x < y) ((subT a).take k)).length ≤ ((subT a).take k).length := allU_len
    have h2 := subT_length a
    rw [List.length_take] at h1
    omega)
  have hend := Lib.hid (show allU (fun x y : Bs => x < y) ((subT a).take a.length) = sfL a from by
    rw [List.take_of_length_le (by rw [subT_length]; exact Nat.le_refl _)]; rfl)
  have hl0 := Lib.hid (show StrA (w.alloc (.cells #[] 9)) (.slice (some ⟨w.heap.size, 0, none⟩) 0 0) [] from ⟨w.heap.size, 0, 0, rfl, Nat.le_refl _, by simp, fun j x hx => by simp at hx⟩)
  have hB0 := Lib.hid ((Below.refl w.heap.size w).alloc (Nat.le_refl _) (.cells #[] 9))
  have hl0' := Lib.hid (show allU (fun x y : Bs => x < y) ((subT a).take 0) = [] from rfl)
  clear h hcell hf
  generalize a.length = la at *
  go_enter Try.func14, Try.ntmps14
  go_wp2_with fail
  go_loopw [3, 4] (fun v i wr => ∃ k : Nat, k ≤ la ∧ i = .int .i64 k ∧ Hid (StrA wr v (allU (fun x y : Bs => x < y) ((subT a).take k))) ∧ Below w.heap.size w wr) (fun _ i _ => la - (intOf i).toNat)
  case atStart => exact ⟨0, Nat.zero_le _, rfl, by rw [hl0'.out]; exact hl0, hB0.out⟩
  case round =>
    obtain ⟨k, hk, rfl, ho, hb⟩ := hrel
    by_cases hlt : k < la
    · obtain ⟨m, hm0, hm1, hme, hfl, ht, hg, hfn⟩ := hround.out k hlt
      have hsu := Lib.hid (hall.out k hlt)
      have hpk := Lib.hid (fun W hW => hpt.out k m W hW hme hlt)
      have hnk := Lib.hid (fun W hW => hnd.out k m W hW hm1)
      rw [hfl] at hnk
      generalize treeOf (partL a k) = t at *
      have hlu := hlenU.out k
      generalize allU (fun x y : Bs => x < y) ((subT a).take k) = U at *
      have hkm : ((k + m : Nat) : Int) ≤ (c : Int) := by omega
      have hkm2 : (k : Int) ≤ ((k + m : Nat) : Int) := by omega
      clear hme hfl
      go_wp2_with fail
      refine (hpk.out _ hb).mono ?_
      rintro e w2 ⟨rfl, rfl⟩
      have hn2 := hnk.out _ hb
      have e2 : k + m - k = m := by omega
      go_wp2_with fail
      refine (l02Text_any t _ _ ht hg hn2 hfn).mono ?_
      rintro e w3 ⟨rfl, b3⟩
      have B3 := Lib.hid (keep_step b3 hb)
      have ho3 := Lib.hid (ho.out.below b3 (Nat.le_refl _))
      generalize txtB t = S at *
      clear hn2 b3 ho hb
      go_wp2_with fail
      refine (l02Insert_any _ U S _ ho3.out (by omega)).mono ?_
      rintro e w4 ⟨v4, rfl, ho4, b4⟩
      have B4 := Lib.hid (keep_step b4 B3.out)
      have ho4 := Lib.hid ho4
      clear b4
      go_wp2_with fail
      go_roundw
      case rel => exact ⟨k + 1, by omega, by go_num, by rw [hsu.out]; exact ho4, B4.out⟩
      case measure => simp [intOf]; omega
    · obtain rfl : k = la := by omega
      rw [hend.out] at ho
      go_wp2_with fail
      go_ret
      exact ⟨_, rfl, ho.out, hb⟩

theorem specSubformulasOf_any (v : Value) (ns : List Nd) (w : World) (h : Nodes w v ns) :
    Calls Try.prog 5 #[v] w fun e w' => ∃ v', e = .returned (.tuple #[v', .int .i64 (sfCode ns)]) ∧ StrL w' v' (sfR ns) ∧ Below w.heap.size w w' := by
  have hif := Lib.hid (l02Is_any v ns w h)
  have hnh := Lib.hid h
  clear h
  cases hf : formB ns
  · obtain ⟨h2, h3⟩ := sf_no hf
    have h2 := Lib.hid h2
    have h3 := Lib.hid h3
    have hf := Lib.hid hf
    rename_i hf'
    clear hf'
    go_enter Try.func5, Try.ntmps5
    go_wp2_with fail
    refine hif.out.mono ?_
    rintro e w1 ⟨rfl, rfl⟩
    rw [hf.out]
    go_wp2_with fail
    go_ret2
    exact ⟨_, by rw [h3.out]; rfl, by rw [h2.out]; exact strL_of_own (World.ownsRow_nil (e := 9) (base := 0) (size := 1) _), Below.refl _ _⟩
  · obtain ⟨h2, h3⟩ := sf_yes hf
    have h2 := Lib.hid h2
    have h3 := Lib.hid h3
    have hsub := Lib.hid (l02Sub_any v ns w hnh.out hf)
    have hf := Lib.hid hf
    rename_i hf'
    clear hf'
    go_enter Try.func5, Try.ntmps5
    go_wp2_with fail
    refine hif.out.mono ?_
    rintro e w1 ⟨rfl, rfl⟩
    rw [hf.out]
    go_wp2_with fail
    refine hsub.out.mono ?_
    rintro e w2 ⟨v2, rfl, o2, b2⟩
    go_wp2_with fail
    go_ret2
    exact ⟨_, by rw [h3.out]; rfl, by rw [h2.out]; exact o2.strL, b2⟩
end Go.Proofs.Ytkhbimdahjkgoaa
