/- SchemesOf, of both: the walks of the lists, one for each name (written by gensch.py). -/
import Derived.Test.YtfedipeabbaccaaAppendNil
import Derived.Maps.AppendAt
import Derived.Deep.AppendLies
import Derived.Test.YtfedipeabbaccaaInts
namespace Go.Proofs.Ytfedipeabbaccaa
open Go.RowKit

/-- The numbers below k. -/
def upTo (k : Nat) : List Int := (List.range k).map fun i => ((i : Nat) : Int)
theorem upTo_succ (k : Nat) : upTo (k + 1) = upTo k ++ [(k : Int)] := by simp [upTo, List.range_succ]
theorem upTo_length (k : Nat) : (upTo k).length = k := by simp [upTo]
theorem news_list (w : World) (xs : List Int) (t : TypeId) : ∀ j q, (xs.map (Value.int .i64))[j]? = some q → (w.alloc (.cells (xs.map (Value.int .i64)).toArray t)).cell? ((⟨w.heap.size, 0, none⟩ : Addr).add j) = some q := by
  intro j q h
  exact World.news_of_block (cs := (xs.map (Value.int .i64)).toArray) (t := t) (fr := (0, 0)) (by show (w.heap.push _)[w.heap.size]? = _; simp) j q (by simpa using h)
theorem ints_oneCell (xs : List Int) : ∀ u ∈ xs.map (Value.int .i64), u.oneCell' = true := by
  intro u hu
  obtain ⟨x, _, rfl⟩ := List.mem_map.1 hu
  rfl

set_option maxHeartbeats 1000000 in
theorem implSch_Int (s : ByteArray) (w : World) (hs : s.toList = [73, 110, 116]) :
    Calls Try.prog 48 #[.string s] w fun e w' => ∃ v', e = .returned (.tuple #[v', .bool true]) ∧ w'.ownsRow w.heap.size 2 1 v' 9 ((upTo 9 ++ []).map (Value.int .i64)) ∧ Below w.heap.size w w' := by
  obtain ⟨i0, hi, hz0, hz1, hz2⟩ := info_parts info_i64
  go_enter Try.func48, Try.ntmps48
  go_wp2_with fail
  replace hs := Lib.hid hs
  go_loopw [6, 38] (fun z i wr => ∃ k : Nat, k ≤ 9 ∧ i = .int .i64 k ∧ Hid (wr.ownsRow w.heap.size 2 1 z k ((upTo k).map (Value.int .i64))) ∧ Below w.heap.size w wr) (fun _ i _ => 9 - (intOf i).toNat)
  case atStart => exact ⟨0, by omega, rfl, World.ownsRow_nil _ _ _ _, Below.refl _ _⟩
  case round =>
    obtain ⟨k, hk, rfl, ho, hb⟩ := hrel
    have hbs := hb.size
    by_cases hlt : k < 9
    · have hki : (k : Int) < 9 := by omega
      have hoA := Lib.hid (ho.out.alloc (.cells #[.int .i64 k] 2))
      have hn1 := Lib.hid (cell_one_new wr (.int .i64 k) 2)
      go_wp2_with (at_builtin; refine wpList_append_own _ rfl _ _ 29 rfl w.heap.size 2 i0 (.int .i64 0) 1 8 Try.underlying29 hi hz0 hz1 hz2 rfl (by decide) _ _ _ rfl hoA.out ⟨wr.heap.size, 0, none⟩ 1 1 [.int .i64 k] rfl rfl hn1.out (by simp [Value.oneCell']) (by unfold maxLen; omega) (by omega) (by simp; omega) ?_; intro v1 w2 hown1 hgrow1 _)
      go_roundw
      case rel =>
        refine ⟨k + 1, by omega, by go_num, ?_, (hb.alloc hbs _).grown hgrow1 (by simp; omega) (fun j hj => (ho.out.lt j hj).1)⟩
        show World.ownsRow _ _ _ _ _ _ _
        rw [upTo_succ, List.map_append]
        exact hown1
      case measure => simp [intOf]; omega
    · obtain rfl : k = 9 := by omega
      obtain ⟨a1, c1, hz, hcc⟩ : ∃ a c, _ = Value.slice a 9 c ∧ 9 ≤ c := by
        obtain ⟨hl, _, a, c, b, q, hv, hc, _⟩ := reads_of_own ho.out
        exact ⟨a, c, hv, hc⟩
      subst hz
      have hfin := ho.out
      have hfin := Lib.hid hfin
      go_wp2_with (at_builtin; refine wpList_append_none rfl _ _ 29 rfl 2 i0 Try.underlying29 hi _ _ _ _ rfl rfl hcc ?_)
      go_ret2
      refine ⟨_, rfl, ?_, hb⟩
      rw [List.append_nil]
      exact hfin.out

set_option maxHeartbeats 1000000 in
theorem implSch_CL (s : ByteArray) (w : World) (hs : s.toList = [67, 76]) :
    Calls Try.prog 48 #[.string s] w fun e w' => ∃ v', e = .returned (.tuple #[v', .bool true]) ∧ w'.ownsRow w.heap.size 2 1 v' 10 ((upTo 10 ++ []).map (Value.int .i64)) ∧ Below w.heap.size w w' := by
  obtain ⟨i0, hi, hz0, hz1, hz2⟩ := info_parts info_i64
  go_enter Try.func48, Try.ntmps48
  go_wp2_with fail
  replace hs := Lib.hid hs
  go_loopw [6, 38] (fun z i wr => ∃ k : Nat, k ≤ 10 ∧ i = .int .i64 k ∧ Hid (wr.ownsRow w.heap.size 2 1 z k ((upTo k).map (Value.int .i64))) ∧ Below w.heap.size w wr) (fun _ i _ => 10 - (intOf i).toNat)
  case atStart => exact ⟨0, by omega, rfl, World.ownsRow_nil _ _ _ _, Below.refl _ _⟩
  case round =>
    obtain ⟨k, hk, rfl, ho, hb⟩ := hrel
    have hbs := hb.size
    by_cases hlt : k < 10
    · have hki : (k : Int) < 10 := by omega
      have hoA := Lib.hid (ho.out.alloc (.cells #[.int .i64 k] 2))
      have hn1 := Lib.hid (cell_one_new wr (.int .i64 k) 2)
      go_wp2_with (at_builtin; refine wpList_append_own _ rfl _ _ 29 rfl w.heap.size 2 i0 (.int .i64 0) 1 8 Try.underlying29 hi hz0 hz1 hz2 rfl (by decide) _ _ _ rfl hoA.out ⟨wr.heap.size, 0, none⟩ 1 1 [.int .i64 k] rfl rfl hn1.out (by simp [Value.oneCell']) (by unfold maxLen; omega) (by omega) (by simp; omega) ?_; intro v1 w2 hown1 hgrow1 _)
      go_roundw
      case rel =>
        refine ⟨k + 1, by omega, by go_num, ?_, (hb.alloc hbs _).grown hgrow1 (by simp; omega) (fun j hj => (ho.out.lt j hj).1)⟩
        show World.ownsRow _ _ _ _ _ _ _
        rw [upTo_succ, List.map_append]
        exact hown1
      case measure => simp [intOf]; omega
    · obtain rfl : k = 10 := by omega
      obtain ⟨a1, c1, hz, hcc⟩ : ∃ a c, _ = Value.slice a 10 c ∧ 10 ≤ c := by
        obtain ⟨hl, _, a, c, b, q, hv, hc, _⟩ := reads_of_own ho.out
        exact ⟨a, c, hv, hc⟩
      subst hz
      have hfin := ho.out
      have hfin := Lib.hid hfin
      go_wp2_with (at_builtin; refine wpList_append_none rfl _ _ 29 rfl 2 i0 Try.underlying29 hi _ _ _ _ rfl rfl hcc ?_)
      go_ret2
      refine ⟨_, rfl, ?_, hb⟩
      rw [List.append_nil]
      exact hfin.out

set_option maxHeartbeats 1000000 in
theorem implSch_K (s : ByteArray) (w : World) (hs : s.toList = [75]) :
    Calls Try.prog 48 #[.string s] w fun e w' => ∃ v', e = .returned (.tuple #[v', .bool true]) ∧ w'.ownsRow w.heap.size 2 1 v' 13 ((upTo 13 ++ []).map (Value.int .i64)) ∧ Below w.heap.size w w' := by
  obtain ⟨i0, hi, hz0, hz1, hz2⟩ := info_parts info_i64
  go_enter Try.func48, Try.ntmps48
  go_wp2_with fail
  replace hs := Lib.hid hs
  go_loopw [6, 38] (fun z i wr => ∃ k : Nat, k ≤ 13 ∧ i = .int .i64 k ∧ Hid (wr.ownsRow w.heap.size 2 1 z k ((upTo k).map (Value.int .i64))) ∧ Below w.heap.size w wr) (fun _ i _ => 13 - (intOf i).toNat)
  case atStart => exact ⟨0, by omega, rfl, World.ownsRow_nil _ _ _ _, Below.refl _ _⟩
  case round =>
    obtain ⟨k, hk, rfl, ho, hb⟩ := hrel
    have hbs := hb.size
    by_cases hlt : k < 13
    · have hki : (k : Int) < 13 := by omega
      have hoA := Lib.hid (ho.out.alloc (.cells #[.int .i64 k] 2))
      have hn1 := Lib.hid (cell_one_new wr (.int .i64 k) 2)
      go_wp2_with (at_builtin; refine wpList_append_own _ rfl _ _ 29 rfl w.heap.size 2 i0 (.int .i64 0) 1 8 Try.underlying29 hi hz0 hz1 hz2 rfl (by decide) _ _ _ rfl hoA.out ⟨wr.heap.size, 0, none⟩ 1 1 [.int .i64 k] rfl rfl hn1.out (by simp [Value.oneCell']) (by unfold maxLen; omega) (by omega) (by simp; omega) ?_; intro v1 w2 hown1 hgrow1 _)
      go_roundw
      case rel =>
        refine ⟨k + 1, by omega, by go_num, ?_, (hb.alloc hbs _).grown hgrow1 (by simp; omega) (fun j hj => (ho.out.lt j hj).1)⟩
        show World.ownsRow _ _ _ _ _ _ _
        rw [upTo_succ, List.map_append]
        exact hown1
      case measure => simp [intOf]; omega
    · obtain rfl : k = 13 := by omega
      obtain ⟨a1, c1, hz, hcc⟩ : ∃ a c, _ = Value.slice a 13 c ∧ 13 ≤ c := by
        obtain ⟨hl, _, a, c, b, q, hv, hc, _⟩ := reads_of_own ho.out
        exact ⟨a, c, hv, hc⟩
      subst hz
      have hfin := ho.out
      have hfin := Lib.hid hfin
      go_wp2_with (at_builtin; refine wpList_append_none rfl _ _ 29 rfl 2 i0 Try.underlying29 hi _ _ _ _ rfl rfl hcc ?_)
      go_ret2
      refine ⟨_, rfl, ?_, hb⟩
      rw [List.append_nil]
      exact hfin.out

set_option maxHeartbeats 1000000 in
theorem implSch_D (s : ByteArray) (w : World) (hs : s.toList = [68]) :
    Calls Try.prog 48 #[.string s] w fun e w' => ∃ v', e = .returned (.tuple #[v', .bool true]) ∧ w'.ownsRow w.heap.size 2 1 v' 14 ((upTo 13 ++ [17]).map (Value.int .i64)) ∧ Below w.heap.size w w' := by
  obtain ⟨i0, hi, hz0, hz1, hz2⟩ := info_parts info_i64
  have hB1 : Below w.heap.size w (w.alloc (.cells #[.int .i64 17] 2)) := (Below.refl _ _).alloc (Nat.le_refl _) _
  have hnew : ∀ j q, (([17] : List Int).map (Value.int .i64))[j]? = some q → (w.alloc (.cells #[.int .i64 17] 2)).cell? ((⟨w.heap.size, 0, none⟩ : Addr).add j) = some q := by
    have h9 := news_list w [17] 2
    skip
    exact h9
  have hsz : w.heap.size < (w.alloc (.cells #[.int .i64 17] 2)).heap.size := by simp
  have hse := Lib.hid (show (w.alloc (.cells #[.int .i64 17] 2)).heap.size = w.heap.size + 1 by simp)
  go_enter Try.func48, Try.ntmps48
  go_wp2_with fail
  generalize hw1 : w.alloc (.cells #[.int .i64 17] 2) = w1 at *
  have hw1 := Lib.hid hw1
  replace hnew := Lib.hid hnew
  replace hs := Lib.hid hs
  go_loopw [6, 38] (fun z i wr => ∃ k : Nat, k ≤ 13 ∧ i = .int .i64 k ∧ Hid (wr.ownsRow w1.heap.size 2 1 z k ((upTo k).map (Value.int .i64))) ∧ Below w1.heap.size w1 wr) (fun _ i _ => 13 - (intOf i).toNat)
  case atStart => exact ⟨0, by omega, rfl, World.ownsRow_nil _ _ _ _, Below.refl _ _⟩
  case round =>
    obtain ⟨k, hk, rfl, ho, hb⟩ := hrel
    have hbs := hb.size
    by_cases hlt : k < 13
    · have hki : (k : Int) < 13 := by omega
      have hoA := Lib.hid (ho.out.alloc (.cells #[.int .i64 k] 2))
      have hn1 := Lib.hid (cell_one_new wr (.int .i64 k) 2)
      go_wp2_with (at_builtin; refine wpList_append_own _ rfl _ _ 29 rfl w1.heap.size 2 i0 (.int .i64 0) 1 8 Try.underlying29 hi hz0 hz1 hz2 rfl (by decide) _ _ _ rfl hoA.out ⟨wr.heap.size, 0, none⟩ 1 1 [.int .i64 k] rfl rfl hn1.out (by simp [Value.oneCell']) (by unfold maxLen; omega) (by omega) (by simp; omega) ?_; intro v1 w2 hown1 hgrow1 _)
      go_roundw
      case rel =>
        refine ⟨k + 1, by omega, by go_num, ?_, (hb.alloc hbs _).grown hgrow1 (by simp; omega) (fun j hj => (ho.out.lt j hj).1)⟩
        show World.ownsRow _ _ _ _ _ _ _
        rw [upTo_succ, List.map_append]
        exact hown1
      case measure => simp [intOf]; omega
    · obtain rfl : k = 13 := by omega
      have hsrc := Lib.hid (show ∀ j q, (([17] : List Int).map (Value.int .i64))[j]? = some q → wr.cell? ((⟨w.heap.size, 0, none⟩ : Addr).add j) = some q from fun j q hq => (hb.cell (World.block_lt_of_cell? w1 _ (hnew.out j q hq))).trans (hnew.out j q hq))
      have hone := Lib.hid (ints_oneCell [17])
      go_wp2_with (at_builtin; refine wpList_append_own _ rfl _ _ 29 rfl w1.heap.size 2 i0 (.int .i64 0) 1 8 Try.underlying29 hi hz0 hz1 hz2 rfl (by decide) _ _ _ rfl ho.out ⟨w.heap.size, 0, none⟩ 1 1 (([17] : List Int).map (Value.int .i64)) rfl rfl hsrc.out hone.out (by unfold maxLen; omega) (by omega) hbs ?_; intro v1 w2 hown1 hgrow1 _)
      go_ret2
      refine ⟨_, rfl, ?_, hB1.trans ((hb.grown hgrow1 hbs (fun j hj => (ho.out.lt j hj).1)).mono (Nat.le_of_lt hsz))⟩
      have h9 := own_mono hown1 (Nat.le_of_lt hsz)
      first
        | (rw [List.map_append]; exact h9)
        | (simp only [List.map_nil, List.append_nil] at h9; exact h9)

set_option maxHeartbeats 1000000 in
theorem implSch_T (s : ByteArray) (w : World) (hs : s.toList = [84]) :
    Calls Try.prog 48 #[.string s] w fun e w' => ∃ v', e = .returned (.tuple #[v', .bool true]) ∧ w'.ownsRow w.heap.size 2 1 v' 14 ((upTo 13 ++ [13]).map (Value.int .i64)) ∧ Below w.heap.size w w' := by
  obtain ⟨i0, hi, hz0, hz1, hz2⟩ := info_parts info_i64
  have hB1 : Below w.heap.size w (w.alloc (.cells #[.int .i64 13] 2)) := (Below.refl _ _).alloc (Nat.le_refl _) _
  have hnew : ∀ j q, (([13] : List Int).map (Value.int .i64))[j]? = some q → (w.alloc (.cells #[.int .i64 13] 2)).cell? ((⟨w.heap.size, 0, none⟩ : Addr).add j) = some q := by
    have h9 := news_list w [13] 2
    skip
    exact h9
  have hsz : w.heap.size < (w.alloc (.cells #[.int .i64 13] 2)).heap.size := by simp
  have hse := Lib.hid (show (w.alloc (.cells #[.int .i64 13] 2)).heap.size = w.heap.size + 1 by simp)
  go_enter Try.func48, Try.ntmps48
  go_wp2_with fail
  generalize hw1 : w.alloc (.cells #[.int .i64 13] 2) = w1 at *
  have hw1 := Lib.hid hw1
  replace hnew := Lib.hid hnew
  replace hs := Lib.hid hs
  go_loopw [6, 38] (fun z i wr => ∃ k : Nat, k ≤ 13 ∧ i = .int .i64 k ∧ Hid (wr.ownsRow w1.heap.size 2 1 z k ((upTo k).map (Value.int .i64))) ∧ Below w1.heap.size w1 wr) (fun _ i _ => 13 - (intOf i).toNat)
  case atStart => exact ⟨0, by omega, rfl, World.ownsRow_nil _ _ _ _, Below.refl _ _⟩
  case round =>
    obtain ⟨k, hk, rfl, ho, hb⟩ := hrel
    have hbs := hb.size
    by_cases hlt : k < 13
    · have hki : (k : Int) < 13 := by omega
      have hoA := Lib.hid (ho.out.alloc (.cells #[.int .i64 k] 2))
      have hn1 := Lib.hid (cell_one_new wr (.int .i64 k) 2)
      go_wp2_with (at_builtin; refine wpList_append_own _ rfl _ _ 29 rfl w1.heap.size 2 i0 (.int .i64 0) 1 8 Try.underlying29 hi hz0 hz1 hz2 rfl (by decide) _ _ _ rfl hoA.out ⟨wr.heap.size, 0, none⟩ 1 1 [.int .i64 k] rfl rfl hn1.out (by simp [Value.oneCell']) (by unfold maxLen; omega) (by omega) (by simp; omega) ?_; intro v1 w2 hown1 hgrow1 _)
      go_roundw
      case rel =>
        refine ⟨k + 1, by omega, by go_num, ?_, (hb.alloc hbs _).grown hgrow1 (by simp; omega) (fun j hj => (ho.out.lt j hj).1)⟩
        show World.ownsRow _ _ _ _ _ _ _
        rw [upTo_succ, List.map_append]
        exact hown1
      case measure => simp [intOf]; omega
    · obtain rfl : k = 13 := by omega
      have hsrc := Lib.hid (show ∀ j q, (([13] : List Int).map (Value.int .i64))[j]? = some q → wr.cell? ((⟨w.heap.size, 0, none⟩ : Addr).add j) = some q from fun j q hq => (hb.cell (World.block_lt_of_cell? w1 _ (hnew.out j q hq))).trans (hnew.out j q hq))
      have hone := Lib.hid (ints_oneCell [13])
      go_wp2_with (at_builtin; refine wpList_append_own _ rfl _ _ 29 rfl w1.heap.size 2 i0 (.int .i64 0) 1 8 Try.underlying29 hi hz0 hz1 hz2 rfl (by decide) _ _ _ rfl ho.out ⟨w.heap.size, 0, none⟩ 1 1 (([13] : List Int).map (Value.int .i64)) rfl rfl hsrc.out hone.out (by unfold maxLen; omega) (by omega) hbs ?_; intro v1 w2 hown1 hgrow1 _)
      go_ret2
      refine ⟨_, rfl, ?_, hB1.trans ((hb.grown hgrow1 hbs (fun j hj => (ho.out.lt j hj).1)).mono (Nat.le_of_lt hsz))⟩
      have h9 := own_mono hown1 (Nat.le_of_lt hsz)
      first
        | (rw [List.map_append]; exact h9)
        | (simp only [List.map_nil, List.append_nil] at h9; exact h9)

set_option maxHeartbeats 1000000 in
theorem implSch_K4 (s : ByteArray) (w : World) (hs : s.toList = [75, 52]) :
    Calls Try.prog 48 #[.string s] w fun e w' => ∃ v', e = .returned (.tuple #[v', .bool true]) ∧ w'.ownsRow w.heap.size 2 1 v' 14 ((upTo 13 ++ [14]).map (Value.int .i64)) ∧ Below w.heap.size w w' := by
  obtain ⟨i0, hi, hz0, hz1, hz2⟩ := info_parts info_i64
  have hB1 : Below w.heap.size w (w.alloc (.cells #[.int .i64 14] 2)) := (Below.refl _ _).alloc (Nat.le_refl _) _
  have hnew : ∀ j q, (([14] : List Int).map (Value.int .i64))[j]? = some q → (w.alloc (.cells #[.int .i64 14] 2)).cell? ((⟨w.heap.size, 0, none⟩ : Addr).add j) = some q := by
    have h9 := news_list w [14] 2
    skip
    exact h9
  have hsz : w.heap.size < (w.alloc (.cells #[.int .i64 14] 2)).heap.size := by simp
  have hse := Lib.hid (show (w.alloc (.cells #[.int .i64 14] 2)).heap.size = w.heap.size + 1 by simp)
  go_enter Try.func48, Try.ntmps48
  go_wp2_with fail
  generalize hw1 : w.alloc (.cells #[.int .i64 14] 2) = w1 at *
  have hw1 := Lib.hid hw1
  replace hnew := Lib.hid hnew
  replace hs := Lib.hid hs
  go_loopw [6, 38] (fun z i wr => ∃ k : Nat, k ≤ 13 ∧ i = .int .i64 k ∧ Hid (wr.ownsRow w1.heap.size 2 1 z k ((upTo k).map (Value.int .i64))) ∧ Below w1.heap.size w1 wr) (fun _ i _ => 13 - (intOf i).toNat)
  case atStart => exact ⟨0, by omega, rfl, World.ownsRow_nil _ _ _ _, Below.refl _ _⟩
  case round =>
    obtain ⟨k, hk, rfl, ho, hb⟩ := hrel
    have hbs := hb.size
    by_cases hlt : k < 13
    · have hki : (k : Int) < 13 := by omega
      have hoA := Lib.hid (ho.out.alloc (.cells #[.int .i64 k] 2))
      have hn1 := Lib.hid (cell_one_new wr (.int .i64 k) 2)
      go_wp2_with (at_builtin; refine wpList_append_own _ rfl _ _ 29 rfl w1.heap.size 2 i0 (.int .i64 0) 1 8 Try.underlying29 hi hz0 hz1 hz2 rfl (by decide) _ _ _ rfl hoA.out ⟨wr.heap.size, 0, none⟩ 1 1 [.int .i64 k] rfl rfl hn1.out (by simp [Value.oneCell']) (by unfold maxLen; omega) (by omega) (by simp; omega) ?_; intro v1 w2 hown1 hgrow1 _)
      go_roundw
      case rel =>
        refine ⟨k + 1, by omega, by go_num, ?_, (hb.alloc hbs _).grown hgrow1 (by simp; omega) (fun j hj => (ho.out.lt j hj).1)⟩
        show World.ownsRow _ _ _ _ _ _ _
        rw [upTo_succ, List.map_append]
        exact hown1
      case measure => simp [intOf]; omega
    · obtain rfl : k = 13 := by omega
      have hsrc := Lib.hid (show ∀ j q, (([14] : List Int).map (Value.int .i64))[j]? = some q → wr.cell? ((⟨w.heap.size, 0, none⟩ : Addr).add j) = some q from fun j q hq => (hb.cell (World.block_lt_of_cell? w1 _ (hnew.out j q hq))).trans (hnew.out j q hq))
      have hone := Lib.hid (ints_oneCell [14])
      go_wp2_with (at_builtin; refine wpList_append_own _ rfl _ _ 29 rfl w1.heap.size 2 i0 (.int .i64 0) 1 8 Try.underlying29 hi hz0 hz1 hz2 rfl (by decide) _ _ _ rfl ho.out ⟨w.heap.size, 0, none⟩ 1 1 (([14] : List Int).map (Value.int .i64)) rfl rfl hsrc.out hone.out (by unfold maxLen; omega) (by omega) hbs ?_; intro v1 w2 hown1 hgrow1 _)
      go_ret2
      refine ⟨_, rfl, ?_, hB1.trans ((hb.grown hgrow1 hbs (fun j hj => (ho.out.lt j hj).1)).mono (Nat.le_of_lt hsz))⟩
      have h9 := own_mono hown1 (Nat.le_of_lt hsz)
      first
        | (rw [List.map_append]; exact h9)
        | (simp only [List.map_nil, List.append_nil] at h9; exact h9)

set_option maxHeartbeats 1000000 in
theorem implSch_S4 (s : ByteArray) (w : World) (hs : s.toList = [83, 52]) :
    Calls Try.prog 48 #[.string s] w fun e w' => ∃ v', e = .returned (.tuple #[v', .bool true]) ∧ w'.ownsRow w.heap.size 2 1 v' 15 ((upTo 13 ++ [13, 14]).map (Value.int .i64)) ∧ Below w.heap.size w w' := by
  obtain ⟨i0, hi, hz0, hz1, hz2⟩ := info_parts info_i64
  have hB1 : Below w.heap.size w (w.alloc (.cells #[.int .i64 13, .int .i64 14] 2)) := (Below.refl _ _).alloc (Nat.le_refl _) _
  have hnew : ∀ j q, (([13, 14] : List Int).map (Value.int .i64))[j]? = some q → (w.alloc (.cells #[.int .i64 13, .int .i64 14] 2)).cell? ((⟨w.heap.size, 0, none⟩ : Addr).add j) = some q := by
    have h9 := news_list w [13, 14] 2
    skip
    exact h9
  have hsz : w.heap.size < (w.alloc (.cells #[.int .i64 13, .int .i64 14] 2)).heap.size := by simp
  have hse := Lib.hid (show (w.alloc (.cells #[.int .i64 13, .int .i64 14] 2)).heap.size = w.heap.size + 1 by simp)
  go_enter Try.func48, Try.ntmps48
  go_wp2_with fail
  generalize hw1 : w.alloc (.cells #[.int .i64 13, .int .i64 14] 2) = w1 at *
  have hw1 := Lib.hid hw1
  replace hnew := Lib.hid hnew
  replace hs := Lib.hid hs
  go_loopw [6, 38] (fun z i wr => ∃ k : Nat, k ≤ 13 ∧ i = .int .i64 k ∧ Hid (wr.ownsRow w1.heap.size 2 1 z k ((upTo k).map (Value.int .i64))) ∧ Below w1.heap.size w1 wr) (fun _ i _ => 13 - (intOf i).toNat)
  case atStart => exact ⟨0, by omega, rfl, World.ownsRow_nil _ _ _ _, Below.refl _ _⟩
  case round =>
    obtain ⟨k, hk, rfl, ho, hb⟩ := hrel
    have hbs := hb.size
    by_cases hlt : k < 13
    · have hki : (k : Int) < 13 := by omega
      have hoA := Lib.hid (ho.out.alloc (.cells #[.int .i64 k] 2))
      have hn1 := Lib.hid (cell_one_new wr (.int .i64 k) 2)
      go_wp2_with (at_builtin; refine wpList_append_own _ rfl _ _ 29 rfl w1.heap.size 2 i0 (.int .i64 0) 1 8 Try.underlying29 hi hz0 hz1 hz2 rfl (by decide) _ _ _ rfl hoA.out ⟨wr.heap.size, 0, none⟩ 1 1 [.int .i64 k] rfl rfl hn1.out (by simp [Value.oneCell']) (by unfold maxLen; omega) (by omega) (by simp; omega) ?_; intro v1 w2 hown1 hgrow1 _)
      go_roundw
      case rel =>
        refine ⟨k + 1, by omega, by go_num, ?_, (hb.alloc hbs _).grown hgrow1 (by simp; omega) (fun j hj => (ho.out.lt j hj).1)⟩
        show World.ownsRow _ _ _ _ _ _ _
        rw [upTo_succ, List.map_append]
        exact hown1
      case measure => simp [intOf]; omega
    · obtain rfl : k = 13 := by omega
      have hsrc := Lib.hid (show ∀ j q, (([13, 14] : List Int).map (Value.int .i64))[j]? = some q → wr.cell? ((⟨w.heap.size, 0, none⟩ : Addr).add j) = some q from fun j q hq => (hb.cell (World.block_lt_of_cell? w1 _ (hnew.out j q hq))).trans (hnew.out j q hq))
      have hone := Lib.hid (ints_oneCell [13, 14])
      go_wp2_with (at_builtin; refine wpList_append_own _ rfl _ _ 29 rfl w1.heap.size 2 i0 (.int .i64 0) 1 8 Try.underlying29 hi hz0 hz1 hz2 rfl (by decide) _ _ _ rfl ho.out ⟨w.heap.size, 0, none⟩ 2 2 (([13, 14] : List Int).map (Value.int .i64)) rfl rfl hsrc.out hone.out (by unfold maxLen; omega) (by omega) hbs ?_; intro v1 w2 hown1 hgrow1 _)
      go_ret2
      refine ⟨_, rfl, ?_, hB1.trans ((hb.grown hgrow1 hbs (fun j hj => (ho.out.lt j hj).1)).mono (Nat.le_of_lt hsz))⟩
      have h9 := own_mono hown1 (Nat.le_of_lt hsz)
      first
        | (rw [List.map_append]; exact h9)
        | (simp only [List.map_nil, List.append_nil] at h9; exact h9)

set_option maxHeartbeats 1000000 in
theorem implSch_S5 (s : ByteArray) (w : World) (hs : s.toList = [83, 53]) :
    Calls Try.prog 48 #[.string s] w fun e w' => ∃ v', e = .returned (.tuple #[v', .bool true]) ∧ w'.ownsRow w.heap.size 2 1 v' 15 ((upTo 13 ++ [13, 15]).map (Value.int .i64)) ∧ Below w.heap.size w w' := by
  obtain ⟨i0, hi, hz0, hz1, hz2⟩ := info_parts info_i64
  have hB1 : Below w.heap.size w (w.alloc (.cells #[.int .i64 13, .int .i64 15] 2)) := (Below.refl _ _).alloc (Nat.le_refl _) _
  have hnew : ∀ j q, (([13, 15] : List Int).map (Value.int .i64))[j]? = some q → (w.alloc (.cells #[.int .i64 13, .int .i64 15] 2)).cell? ((⟨w.heap.size, 0, none⟩ : Addr).add j) = some q := by
    have h9 := news_list w [13, 15] 2
    skip
    exact h9
  have hsz : w.heap.size < (w.alloc (.cells #[.int .i64 13, .int .i64 15] 2)).heap.size := by simp
  have hse := Lib.hid (show (w.alloc (.cells #[.int .i64 13, .int .i64 15] 2)).heap.size = w.heap.size + 1 by simp)
  go_enter Try.func48, Try.ntmps48
  go_wp2_with fail
  generalize hw1 : w.alloc (.cells #[.int .i64 13, .int .i64 15] 2) = w1 at *
  have hw1 := Lib.hid hw1
  replace hnew := Lib.hid hnew
  replace hs := Lib.hid hs
  go_loopw [6, 38] (fun z i wr => ∃ k : Nat, k ≤ 13 ∧ i = .int .i64 k ∧ Hid (wr.ownsRow w1.heap.size 2 1 z k ((upTo k).map (Value.int .i64))) ∧ Below w1.heap.size w1 wr) (fun _ i _ => 13 - (intOf i).toNat)
  case atStart => exact ⟨0, by omega, rfl, World.ownsRow_nil _ _ _ _, Below.refl _ _⟩
  case round =>
    obtain ⟨k, hk, rfl, ho, hb⟩ := hrel
    have hbs := hb.size
    by_cases hlt : k < 13
    · have hki : (k : Int) < 13 := by omega
      have hoA := Lib.hid (ho.out.alloc (.cells #[.int .i64 k] 2))
      have hn1 := Lib.hid (cell_one_new wr (.int .i64 k) 2)
      go_wp2_with (at_builtin; refine wpList_append_own _ rfl _ _ 29 rfl w1.heap.size 2 i0 (.int .i64 0) 1 8 Try.underlying29 hi hz0 hz1 hz2 rfl (by decide) _ _ _ rfl hoA.out ⟨wr.heap.size, 0, none⟩ 1 1 [.int .i64 k] rfl rfl hn1.out (by simp [Value.oneCell']) (by unfold maxLen; omega) (by omega) (by simp; omega) ?_; intro v1 w2 hown1 hgrow1 _)
      go_roundw
      case rel =>
        refine ⟨k + 1, by omega, by go_num, ?_, (hb.alloc hbs _).grown hgrow1 (by simp; omega) (fun j hj => (ho.out.lt j hj).1)⟩
        show World.ownsRow _ _ _ _ _ _ _
        rw [upTo_succ, List.map_append]
        exact hown1
      case measure => simp [intOf]; omega
    · obtain rfl : k = 13 := by omega
      have hsrc := Lib.hid (show ∀ j q, (([13, 15] : List Int).map (Value.int .i64))[j]? = some q → wr.cell? ((⟨w.heap.size, 0, none⟩ : Addr).add j) = some q from fun j q hq => (hb.cell (World.block_lt_of_cell? w1 _ (hnew.out j q hq))).trans (hnew.out j q hq))
      have hone := Lib.hid (ints_oneCell [13, 15])
      go_wp2_with (at_builtin; refine wpList_append_own _ rfl _ _ 29 rfl w1.heap.size 2 i0 (.int .i64 0) 1 8 Try.underlying29 hi hz0 hz1 hz2 rfl (by decide) _ _ _ rfl ho.out ⟨w.heap.size, 0, none⟩ 2 2 (([13, 15] : List Int).map (Value.int .i64)) rfl rfl hsrc.out hone.out (by unfold maxLen; omega) (by omega) hbs ?_; intro v1 w2 hown1 hgrow1 _)
      go_ret2
      refine ⟨_, rfl, ?_, hB1.trans ((hb.grown hgrow1 hbs (fun j hj => (ho.out.lt j hj).1)).mono (Nat.le_of_lt hsz))⟩
      have h9 := own_mono hown1 (Nat.le_of_lt hsz)
      first
        | (rw [List.map_append]; exact h9)
        | (simp only [List.map_nil, List.append_nil] at h9; exact h9)

set_option maxHeartbeats 1000000 in
theorem implSch_KB (s : ByteArray) (w : World) (hs : s.toList = [75, 66]) :
    Calls Try.prog 48 #[.string s] w fun e w' => ∃ v', e = .returned (.tuple #[v', .bool true]) ∧ w'.ownsRow w.heap.size 2 1 v' 14 ((upTo 13 ++ [16]).map (Value.int .i64)) ∧ Below w.heap.size w w' := by
  obtain ⟨i0, hi, hz0, hz1, hz2⟩ := info_parts info_i64
  have hB1 : Below w.heap.size w (w.alloc (.cells #[.int .i64 16] 2)) := (Below.refl _ _).alloc (Nat.le_refl _) _
  have hnew : ∀ j q, (([16] : List Int).map (Value.int .i64))[j]? = some q → (w.alloc (.cells #[.int .i64 16] 2)).cell? ((⟨w.heap.size, 0, none⟩ : Addr).add j) = some q := by
    have h9 := news_list w [16] 2
    skip
    exact h9
  have hsz : w.heap.size < (w.alloc (.cells #[.int .i64 16] 2)).heap.size := by simp
  have hse := Lib.hid (show (w.alloc (.cells #[.int .i64 16] 2)).heap.size = w.heap.size + 1 by simp)
  go_enter Try.func48, Try.ntmps48
  go_wp2_with fail
  generalize hw1 : w.alloc (.cells #[.int .i64 16] 2) = w1 at *
  have hw1 := Lib.hid hw1
  replace hnew := Lib.hid hnew
  replace hs := Lib.hid hs
  go_loopw [6, 38] (fun z i wr => ∃ k : Nat, k ≤ 13 ∧ i = .int .i64 k ∧ Hid (wr.ownsRow w1.heap.size 2 1 z k ((upTo k).map (Value.int .i64))) ∧ Below w1.heap.size w1 wr) (fun _ i _ => 13 - (intOf i).toNat)
  case atStart => exact ⟨0, by omega, rfl, World.ownsRow_nil _ _ _ _, Below.refl _ _⟩
  case round =>
    obtain ⟨k, hk, rfl, ho, hb⟩ := hrel
    have hbs := hb.size
    by_cases hlt : k < 13
    · have hki : (k : Int) < 13 := by omega
      have hoA := Lib.hid (ho.out.alloc (.cells #[.int .i64 k] 2))
      have hn1 := Lib.hid (cell_one_new wr (.int .i64 k) 2)
      go_wp2_with (at_builtin; refine wpList_append_own _ rfl _ _ 29 rfl w1.heap.size 2 i0 (.int .i64 0) 1 8 Try.underlying29 hi hz0 hz1 hz2 rfl (by decide) _ _ _ rfl hoA.out ⟨wr.heap.size, 0, none⟩ 1 1 [.int .i64 k] rfl rfl hn1.out (by simp [Value.oneCell']) (by unfold maxLen; omega) (by omega) (by simp; omega) ?_; intro v1 w2 hown1 hgrow1 _)
      go_roundw
      case rel =>
        refine ⟨k + 1, by omega, by go_num, ?_, (hb.alloc hbs _).grown hgrow1 (by simp; omega) (fun j hj => (ho.out.lt j hj).1)⟩
        show World.ownsRow _ _ _ _ _ _ _
        rw [upTo_succ, List.map_append]
        exact hown1
      case measure => simp [intOf]; omega
    · obtain rfl : k = 13 := by omega
      have hsrc := Lib.hid (show ∀ j q, (([16] : List Int).map (Value.int .i64))[j]? = some q → wr.cell? ((⟨w.heap.size, 0, none⟩ : Addr).add j) = some q from fun j q hq => (hb.cell (World.block_lt_of_cell? w1 _ (hnew.out j q hq))).trans (hnew.out j q hq))
      have hone := Lib.hid (ints_oneCell [16])
      go_wp2_with (at_builtin; refine wpList_append_own _ rfl _ _ 29 rfl w1.heap.size 2 i0 (.int .i64 0) 1 8 Try.underlying29 hi hz0 hz1 hz2 rfl (by decide) _ _ _ rfl ho.out ⟨w.heap.size, 0, none⟩ 1 1 (([16] : List Int).map (Value.int .i64)) rfl rfl hsrc.out hone.out (by unfold maxLen; omega) (by omega) hbs ?_; intro v1 w2 hown1 hgrow1 _)
      go_ret2
      refine ⟨_, rfl, ?_, hB1.trans ((hb.grown hgrow1 hbs (fun j hj => (ho.out.lt j hj).1)).mono (Nat.le_of_lt hsz))⟩
      have h9 := own_mono hown1 (Nat.le_of_lt hsz)
      first
        | (rw [List.map_append]; exact h9)
        | (simp only [List.map_nil, List.append_nil] at h9; exact h9)

set_option maxHeartbeats 1000000 in
theorem implSch_GL (s : ByteArray) (w : World) (hs : s.toList = [71, 76]) :
    Calls Try.prog 48 #[.string s] w fun e w' => ∃ v', e = .returned (.tuple #[v', .bool true]) ∧ w'.ownsRow w.heap.size 2 1 v' 14 ((upTo 13 ++ [18]).map (Value.int .i64)) ∧ Below w.heap.size w w' := by
  obtain ⟨i0, hi, hz0, hz1, hz2⟩ := info_parts info_i64
  have hB1 : Below w.heap.size w (w.alloc (.cells #[.int .i64 18] 2)) := (Below.refl _ _).alloc (Nat.le_refl _) _
  have hnew : ∀ j q, (([18] : List Int).map (Value.int .i64))[j]? = some q → (w.alloc (.cells #[.int .i64 18] 2)).cell? ((⟨w.heap.size, 0, none⟩ : Addr).add j) = some q := by
    have h9 := news_list w [18] 2
    skip
    exact h9
  have hsz : w.heap.size < (w.alloc (.cells #[.int .i64 18] 2)).heap.size := by simp
  have hse := Lib.hid (show (w.alloc (.cells #[.int .i64 18] 2)).heap.size = w.heap.size + 1 by simp)
  go_enter Try.func48, Try.ntmps48
  go_wp2_with fail
  generalize hw1 : w.alloc (.cells #[.int .i64 18] 2) = w1 at *
  have hw1 := Lib.hid hw1
  replace hnew := Lib.hid hnew
  replace hs := Lib.hid hs
  go_loopw [6, 38] (fun z i wr => ∃ k : Nat, k ≤ 13 ∧ i = .int .i64 k ∧ Hid (wr.ownsRow w1.heap.size 2 1 z k ((upTo k).map (Value.int .i64))) ∧ Below w1.heap.size w1 wr) (fun _ i _ => 13 - (intOf i).toNat)
  case atStart => exact ⟨0, by omega, rfl, World.ownsRow_nil _ _ _ _, Below.refl _ _⟩
  case round =>
    obtain ⟨k, hk, rfl, ho, hb⟩ := hrel
    have hbs := hb.size
    by_cases hlt : k < 13
    · have hki : (k : Int) < 13 := by omega
      have hoA := Lib.hid (ho.out.alloc (.cells #[.int .i64 k] 2))
      have hn1 := Lib.hid (cell_one_new wr (.int .i64 k) 2)
      go_wp2_with (at_builtin; refine wpList_append_own _ rfl _ _ 29 rfl w1.heap.size 2 i0 (.int .i64 0) 1 8 Try.underlying29 hi hz0 hz1 hz2 rfl (by decide) _ _ _ rfl hoA.out ⟨wr.heap.size, 0, none⟩ 1 1 [.int .i64 k] rfl rfl hn1.out (by simp [Value.oneCell']) (by unfold maxLen; omega) (by omega) (by simp; omega) ?_; intro v1 w2 hown1 hgrow1 _)
      go_roundw
      case rel =>
        refine ⟨k + 1, by omega, by go_num, ?_, (hb.alloc hbs _).grown hgrow1 (by simp; omega) (fun j hj => (ho.out.lt j hj).1)⟩
        show World.ownsRow _ _ _ _ _ _ _
        rw [upTo_succ, List.map_append]
        exact hown1
      case measure => simp [intOf]; omega
    · obtain rfl : k = 13 := by omega
      have hsrc := Lib.hid (show ∀ j q, (([18] : List Int).map (Value.int .i64))[j]? = some q → wr.cell? ((⟨w.heap.size, 0, none⟩ : Addr).add j) = some q from fun j q hq => (hb.cell (World.block_lt_of_cell? w1 _ (hnew.out j q hq))).trans (hnew.out j q hq))
      have hone := Lib.hid (ints_oneCell [18])
      go_wp2_with (at_builtin; refine wpList_append_own _ rfl _ _ 29 rfl w1.heap.size 2 i0 (.int .i64 0) 1 8 Try.underlying29 hi hz0 hz1 hz2 rfl (by decide) _ _ _ rfl ho.out ⟨w.heap.size, 0, none⟩ 1 1 (([18] : List Int).map (Value.int .i64)) rfl rfl hsrc.out hone.out (by unfold maxLen; omega) (by omega) hbs ?_; intro v1 w2 hown1 hgrow1 _)
      go_ret2
      refine ⟨_, rfl, ?_, hB1.trans ((hb.grown hgrow1 hbs (fun j hj => (ho.out.lt j hj).1)).mono (Nat.le_of_lt hsz))⟩
      have h9 := own_mono hown1 (Nat.le_of_lt hsz)
      first
        | (rw [List.map_append]; exact h9)
        | (simp only [List.map_nil, List.append_nil] at h9; exact h9)

set_option maxHeartbeats 1000000 in
theorem specSch_Int (s : ByteArray) (w : World) (hs : s.toList = [73, 110, 116]) :
    Calls Try.prog 47 #[.string s] w fun e w' => ∃ v', e = .returned v' ∧ w'.ownsRow w.heap.size 2 1 v' 9 ((upTo 9 ++ []).map (Value.int .i64)) ∧ Below w.heap.size w w' := by
  obtain ⟨i0, hi, hz0, hz1, hz2⟩ := info_parts info_i64
  have hB1 : Below w.heap.size w (w.alloc (.cells #[] 2)) := (Below.refl _ _).alloc (Nat.le_refl _) _
  have hnew : ∀ j q, (([] : List Int).map (Value.int .i64))[j]? = some q → (w.alloc (.cells #[] 2)).cell? ((⟨w.heap.size, 0, none⟩ : Addr).add j) = some q := by
    intro j q h
    simp at h
  have hsz : w.heap.size < (w.alloc (.cells #[] 2)).heap.size := by simp
  have hse := Lib.hid (show (w.alloc (.cells #[] 2)).heap.size = w.heap.size + 1 by simp)
  go_enter Try.func47, Try.ntmps47
  go_wp2_with fail
  generalize hw1 : w.alloc (.cells #[] 2) = w1 at *
  have hw1 := Lib.hid hw1
  replace hnew := Lib.hid hnew
  replace hs := Lib.hid hs
  go_loopw [5, 6] (fun z i wr => ∃ k : Nat, k ≤ 9 ∧ i = .int .i64 k ∧ Hid (wr.ownsRow w1.heap.size 2 1 z k ((upTo k).map (Value.int .i64))) ∧ Below w1.heap.size w1 wr) (fun _ i _ => 9 - (intOf i).toNat)
  case atStart =>
    refine ⟨0, by omega, rfl, ?_, (Below.refl _ _).alloc (Nat.le_refl _) _⟩
    have h9 : (w1.alloc (.cells #[] 2)).ownsRow w1.heap.size 2 1 (.slice (some ⟨w1.heap.size, 0, none⟩) 0 0) 0 ((upTo 0).map (Value.int .i64)) := World.ownsRow_lit w1 #[] 0 (Nat.le_refl _) (by simp [maxLen]) rfl
    show World.ownsRow _ _ _ _ _ _ _
    rw [hse.out]
    rw [hse.out] at h9
    exact h9
  case round =>
    obtain ⟨k, hk, rfl, ho, hb⟩ := hrel
    have hbs := hb.size
    by_cases hlt : k < 9
    · have hki : (k : Int) < 9 := by omega
      have hoA := Lib.hid (ho.out.alloc (.cells #[.int .i64 k] 2))
      have hn1 := Lib.hid (cell_one_new wr (.int .i64 k) 2)
      go_wp2_with (at_builtin; refine wpList_append_own _ rfl _ _ 29 rfl w1.heap.size 2 i0 (.int .i64 0) 1 8 Try.underlying29 hi hz0 hz1 hz2 rfl (by decide) _ _ _ rfl hoA.out ⟨wr.heap.size, 0, none⟩ 1 1 [.int .i64 k] rfl rfl hn1.out (by simp [Value.oneCell']) (by unfold maxLen; omega) (by omega) (by simp; omega) ?_; intro v1 w2 hown1 hgrow1 _)
      go_roundw
      case rel =>
        refine ⟨k + 1, by omega, by go_num, ?_, (hb.alloc hbs _).grown hgrow1 (by simp; omega) (fun j hj => (ho.out.lt j hj).1)⟩
        show World.ownsRow _ _ _ _ _ _ _
        rw [upTo_succ, List.map_append]
        exact hown1
      case measure => simp [intOf]; omega
    · obtain rfl : k = 9 := by omega
      have hsrc := Lib.hid (show ∀ j q, (([] : List Int).map (Value.int .i64))[j]? = some q → wr.cell? ((⟨w.heap.size, 0, none⟩ : Addr).add j) = some q from fun j q hq => (hb.cell (World.block_lt_of_cell? w1 _ (hnew.out j q hq))).trans (hnew.out j q hq))
      have hone := Lib.hid (ints_oneCell [])
      go_wp2_with (at_builtin; refine wpList_append_own _ rfl _ _ 29 rfl w1.heap.size 2 i0 (.int .i64 0) 1 8 Try.underlying29 hi hz0 hz1 hz2 rfl (by decide) _ _ _ rfl ho.out ⟨w.heap.size, 0, none⟩ 0 0 (([] : List Int).map (Value.int .i64)) rfl rfl hsrc.out hone.out (by unfold maxLen; omega) (by omega) hbs ?_; intro v1 w2 hown1 hgrow1 _)
      go_ret
      refine ⟨_, rfl, ?_, hB1.trans ((hb.grown hgrow1 hbs (fun j hj => (ho.out.lt j hj).1)).mono (Nat.le_of_lt hsz))⟩
      have h9 := own_mono hown1 (Nat.le_of_lt hsz)
      first
        | (rw [List.map_append]; exact h9)
        | (simp only [List.map_nil, List.append_nil] at h9; exact h9)

set_option maxHeartbeats 1000000 in
theorem specSch_CL (s : ByteArray) (w : World) (hs : s.toList = [67, 76]) :
    Calls Try.prog 47 #[.string s] w fun e w' => ∃ v', e = .returned v' ∧ w'.ownsRow w.heap.size 2 1 v' 10 ((upTo 10 ++ []).map (Value.int .i64)) ∧ Below w.heap.size w w' := by
  obtain ⟨i0, hi, hz0, hz1, hz2⟩ := info_parts info_i64
  have hB1 : Below w.heap.size w (w.alloc (.cells #[] 2)) := (Below.refl _ _).alloc (Nat.le_refl _) _
  have hnew : ∀ j q, (([] : List Int).map (Value.int .i64))[j]? = some q → (w.alloc (.cells #[] 2)).cell? ((⟨w.heap.size, 0, none⟩ : Addr).add j) = some q := by
    intro j q h
    simp at h
  have hsz : w.heap.size < (w.alloc (.cells #[] 2)).heap.size := by simp
  have hse := Lib.hid (show (w.alloc (.cells #[] 2)).heap.size = w.heap.size + 1 by simp)
  go_enter Try.func47, Try.ntmps47
  go_wp2_with fail
  generalize hw1 : w.alloc (.cells #[] 2) = w1 at *
  have hw1 := Lib.hid hw1
  replace hnew := Lib.hid hnew
  replace hs := Lib.hid hs
  go_loopw [5, 6] (fun z i wr => ∃ k : Nat, k ≤ 10 ∧ i = .int .i64 k ∧ Hid (wr.ownsRow w1.heap.size 2 1 z k ((upTo k).map (Value.int .i64))) ∧ Below w1.heap.size w1 wr) (fun _ i _ => 10 - (intOf i).toNat)
  case atStart =>
    refine ⟨0, by omega, rfl, ?_, (Below.refl _ _).alloc (Nat.le_refl _) _⟩
    have h9 : (w1.alloc (.cells #[] 2)).ownsRow w1.heap.size 2 1 (.slice (some ⟨w1.heap.size, 0, none⟩) 0 0) 0 ((upTo 0).map (Value.int .i64)) := World.ownsRow_lit w1 #[] 0 (Nat.le_refl _) (by simp [maxLen]) rfl
    show World.ownsRow _ _ _ _ _ _ _
    rw [hse.out]
    rw [hse.out] at h9
    exact h9
  case round =>
    obtain ⟨k, hk, rfl, ho, hb⟩ := hrel
    have hbs := hb.size
    by_cases hlt : k < 10
    · have hki : (k : Int) < 10 := by omega
      have hoA := Lib.hid (ho.out.alloc (.cells #[.int .i64 k] 2))
      have hn1 := Lib.hid (cell_one_new wr (.int .i64 k) 2)
      go_wp2_with (at_builtin; refine wpList_append_own _ rfl _ _ 29 rfl w1.heap.size 2 i0 (.int .i64 0) 1 8 Try.underlying29 hi hz0 hz1 hz2 rfl (by decide) _ _ _ rfl hoA.out ⟨wr.heap.size, 0, none⟩ 1 1 [.int .i64 k] rfl rfl hn1.out (by simp [Value.oneCell']) (by unfold maxLen; omega) (by omega) (by simp; omega) ?_; intro v1 w2 hown1 hgrow1 _)
      go_roundw
      case rel =>
        refine ⟨k + 1, by omega, by go_num, ?_, (hb.alloc hbs _).grown hgrow1 (by simp; omega) (fun j hj => (ho.out.lt j hj).1)⟩
        show World.ownsRow _ _ _ _ _ _ _
        rw [upTo_succ, List.map_append]
        exact hown1
      case measure => simp [intOf]; omega
    · obtain rfl : k = 10 := by omega
      have hsrc := Lib.hid (show ∀ j q, (([] : List Int).map (Value.int .i64))[j]? = some q → wr.cell? ((⟨w.heap.size, 0, none⟩ : Addr).add j) = some q from fun j q hq => (hb.cell (World.block_lt_of_cell? w1 _ (hnew.out j q hq))).trans (hnew.out j q hq))
      have hone := Lib.hid (ints_oneCell [])
      go_wp2_with (at_builtin; refine wpList_append_own _ rfl _ _ 29 rfl w1.heap.size 2 i0 (.int .i64 0) 1 8 Try.underlying29 hi hz0 hz1 hz2 rfl (by decide) _ _ _ rfl ho.out ⟨w.heap.size, 0, none⟩ 0 0 (([] : List Int).map (Value.int .i64)) rfl rfl hsrc.out hone.out (by unfold maxLen; omega) (by omega) hbs ?_; intro v1 w2 hown1 hgrow1 _)
      go_ret
      refine ⟨_, rfl, ?_, hB1.trans ((hb.grown hgrow1 hbs (fun j hj => (ho.out.lt j hj).1)).mono (Nat.le_of_lt hsz))⟩
      have h9 := own_mono hown1 (Nat.le_of_lt hsz)
      first
        | (rw [List.map_append]; exact h9)
        | (simp only [List.map_nil, List.append_nil] at h9; exact h9)

set_option maxHeartbeats 1000000 in
theorem specSch_K (s : ByteArray) (w : World) (hs : s.toList = [75]) :
    Calls Try.prog 47 #[.string s] w fun e w' => ∃ v', e = .returned v' ∧ w'.ownsRow w.heap.size 2 1 v' 13 ((upTo 13 ++ []).map (Value.int .i64)) ∧ Below w.heap.size w w' := by
  obtain ⟨i0, hi, hz0, hz1, hz2⟩ := info_parts info_i64
  have hB1 : Below w.heap.size w (w.alloc (.cells #[] 2)) := (Below.refl _ _).alloc (Nat.le_refl _) _
  have hnew : ∀ j q, (([] : List Int).map (Value.int .i64))[j]? = some q → (w.alloc (.cells #[] 2)).cell? ((⟨w.heap.size, 0, none⟩ : Addr).add j) = some q := by
    intro j q h
    simp at h
  have hsz : w.heap.size < (w.alloc (.cells #[] 2)).heap.size := by simp
  have hse := Lib.hid (show (w.alloc (.cells #[] 2)).heap.size = w.heap.size + 1 by simp)
  go_enter Try.func47, Try.ntmps47
  go_wp2_with fail
  generalize hw1 : w.alloc (.cells #[] 2) = w1 at *
  have hw1 := Lib.hid hw1
  replace hnew := Lib.hid hnew
  replace hs := Lib.hid hs
  go_loopw [5, 6] (fun z i wr => ∃ k : Nat, k ≤ 13 ∧ i = .int .i64 k ∧ Hid (wr.ownsRow w1.heap.size 2 1 z k ((upTo k).map (Value.int .i64))) ∧ Below w1.heap.size w1 wr) (fun _ i _ => 13 - (intOf i).toNat)
  case atStart =>
    refine ⟨0, by omega, rfl, ?_, (Below.refl _ _).alloc (Nat.le_refl _) _⟩
    have h9 : (w1.alloc (.cells #[] 2)).ownsRow w1.heap.size 2 1 (.slice (some ⟨w1.heap.size, 0, none⟩) 0 0) 0 ((upTo 0).map (Value.int .i64)) := World.ownsRow_lit w1 #[] 0 (Nat.le_refl _) (by simp [maxLen]) rfl
    show World.ownsRow _ _ _ _ _ _ _
    rw [hse.out]
    rw [hse.out] at h9
    exact h9
  case round =>
    obtain ⟨k, hk, rfl, ho, hb⟩ := hrel
    have hbs := hb.size
    by_cases hlt : k < 13
    · have hki : (k : Int) < 13 := by omega
      have hoA := Lib.hid (ho.out.alloc (.cells #[.int .i64 k] 2))
      have hn1 := Lib.hid (cell_one_new wr (.int .i64 k) 2)
      go_wp2_with (at_builtin; refine wpList_append_own _ rfl _ _ 29 rfl w1.heap.size 2 i0 (.int .i64 0) 1 8 Try.underlying29 hi hz0 hz1 hz2 rfl (by decide) _ _ _ rfl hoA.out ⟨wr.heap.size, 0, none⟩ 1 1 [.int .i64 k] rfl rfl hn1.out (by simp [Value.oneCell']) (by unfold maxLen; omega) (by omega) (by simp; omega) ?_; intro v1 w2 hown1 hgrow1 _)
      go_roundw
      case rel =>
        refine ⟨k + 1, by omega, by go_num, ?_, (hb.alloc hbs _).grown hgrow1 (by simp; omega) (fun j hj => (ho.out.lt j hj).1)⟩
        show World.ownsRow _ _ _ _ _ _ _
        rw [upTo_succ, List.map_append]
        exact hown1
      case measure => simp [intOf]; omega
    · obtain rfl : k = 13 := by omega
      have hsrc := Lib.hid (show ∀ j q, (([] : List Int).map (Value.int .i64))[j]? = some q → wr.cell? ((⟨w.heap.size, 0, none⟩ : Addr).add j) = some q from fun j q hq => (hb.cell (World.block_lt_of_cell? w1 _ (hnew.out j q hq))).trans (hnew.out j q hq))
      have hone := Lib.hid (ints_oneCell [])
      go_wp2_with (at_builtin; refine wpList_append_own _ rfl _ _ 29 rfl w1.heap.size 2 i0 (.int .i64 0) 1 8 Try.underlying29 hi hz0 hz1 hz2 rfl (by decide) _ _ _ rfl ho.out ⟨w.heap.size, 0, none⟩ 0 0 (([] : List Int).map (Value.int .i64)) rfl rfl hsrc.out hone.out (by unfold maxLen; omega) (by omega) hbs ?_; intro v1 w2 hown1 hgrow1 _)
      go_ret
      refine ⟨_, rfl, ?_, hB1.trans ((hb.grown hgrow1 hbs (fun j hj => (ho.out.lt j hj).1)).mono (Nat.le_of_lt hsz))⟩
      have h9 := own_mono hown1 (Nat.le_of_lt hsz)
      first
        | (rw [List.map_append]; exact h9)
        | (simp only [List.map_nil, List.append_nil] at h9; exact h9)

set_option maxHeartbeats 1000000 in
theorem specSch_D (s : ByteArray) (w : World) (hs : s.toList = [68]) :
    Calls Try.prog 47 #[.string s] w fun e w' => ∃ v', e = .returned v' ∧ w'.ownsRow w.heap.size 2 1 v' 14 ((upTo 13 ++ [17]).map (Value.int .i64)) ∧ Below w.heap.size w w' := by
  obtain ⟨i0, hi, hz0, hz1, hz2⟩ := info_parts info_i64
  have hB1 : Below w.heap.size w ((w.alloc (.cells #[] 2)).alloc (.cells #[.int .i64 17] 2)) := ((Below.refl _ _).alloc (Nat.le_refl _) _).alloc (by simp) _
  have hnew : ∀ j q, (([17] : List Int).map (Value.int .i64))[j]? = some q → ((w.alloc (.cells #[] 2)).alloc (.cells #[.int .i64 17] 2)).cell? ((⟨w.heap.size + 1, 0, none⟩ : Addr).add j) = some q := by
    have h9 := news_list (w.alloc (.cells #[] 2)) [17] 2
    rw [show (w.alloc (.cells #[] 2)).heap.size = w.heap.size + 1 by simp] at h9
    exact h9
  have hsz : w.heap.size < ((w.alloc (.cells #[] 2)).alloc (.cells #[.int .i64 17] 2)).heap.size := by simp; omega
  have hse := Lib.hid (show ((w.alloc (.cells #[] 2)).alloc (.cells #[.int .i64 17] 2)).heap.size = w.heap.size + 2 by simp)
  go_enter Try.func47, Try.ntmps47
  go_wp2_with fail
  generalize hw1 : (w.alloc (.cells #[] 2)).alloc (.cells #[.int .i64 17] 2) = w1 at *
  have hw1 := Lib.hid hw1
  replace hnew := Lib.hid hnew
  replace hs := Lib.hid hs
  go_loopw [5, 6] (fun z i wr => ∃ k : Nat, k ≤ 13 ∧ i = .int .i64 k ∧ Hid (wr.ownsRow w1.heap.size 2 1 z k ((upTo k).map (Value.int .i64))) ∧ Below w1.heap.size w1 wr) (fun _ i _ => 13 - (intOf i).toNat)
  case atStart =>
    refine ⟨0, by omega, rfl, ?_, (Below.refl _ _).alloc (Nat.le_refl _) _⟩
    have h9 : (w1.alloc (.cells #[] 2)).ownsRow w1.heap.size 2 1 (.slice (some ⟨w1.heap.size, 0, none⟩) 0 0) 0 ((upTo 0).map (Value.int .i64)) := World.ownsRow_lit w1 #[] 0 (Nat.le_refl _) (by simp [maxLen]) rfl
    show World.ownsRow _ _ _ _ _ _ _
    rw [hse.out]
    rw [hse.out] at h9
    exact h9
  case round =>
    obtain ⟨k, hk, rfl, ho, hb⟩ := hrel
    have hbs := hb.size
    by_cases hlt : k < 13
    · have hki : (k : Int) < 13 := by omega
      have hoA := Lib.hid (ho.out.alloc (.cells #[.int .i64 k] 2))
      have hn1 := Lib.hid (cell_one_new wr (.int .i64 k) 2)
      go_wp2_with (at_builtin; refine wpList_append_own _ rfl _ _ 29 rfl w1.heap.size 2 i0 (.int .i64 0) 1 8 Try.underlying29 hi hz0 hz1 hz2 rfl (by decide) _ _ _ rfl hoA.out ⟨wr.heap.size, 0, none⟩ 1 1 [.int .i64 k] rfl rfl hn1.out (by simp [Value.oneCell']) (by unfold maxLen; omega) (by omega) (by simp; omega) ?_; intro v1 w2 hown1 hgrow1 _)
      go_roundw
      case rel =>
        refine ⟨k + 1, by omega, by go_num, ?_, (hb.alloc hbs _).grown hgrow1 (by simp; omega) (fun j hj => (ho.out.lt j hj).1)⟩
        show World.ownsRow _ _ _ _ _ _ _
        rw [upTo_succ, List.map_append]
        exact hown1
      case measure => simp [intOf]; omega
    · obtain rfl : k = 13 := by omega
      have hsrc := Lib.hid (show ∀ j q, (([17] : List Int).map (Value.int .i64))[j]? = some q → wr.cell? ((⟨w.heap.size + 1, 0, none⟩ : Addr).add j) = some q from fun j q hq => (hb.cell (World.block_lt_of_cell? w1 _ (hnew.out j q hq))).trans (hnew.out j q hq))
      have hone := Lib.hid (ints_oneCell [17])
      go_wp2_with (at_builtin; refine wpList_append_own _ rfl _ _ 29 rfl w1.heap.size 2 i0 (.int .i64 0) 1 8 Try.underlying29 hi hz0 hz1 hz2 rfl (by decide) _ _ _ rfl ho.out ⟨w.heap.size + 1, 0, none⟩ 1 1 (([17] : List Int).map (Value.int .i64)) rfl rfl hsrc.out hone.out (by unfold maxLen; omega) (by omega) hbs ?_; intro v1 w2 hown1 hgrow1 _)
      go_ret
      refine ⟨_, rfl, ?_, hB1.trans ((hb.grown hgrow1 hbs (fun j hj => (ho.out.lt j hj).1)).mono (Nat.le_of_lt hsz))⟩
      have h9 := own_mono hown1 (Nat.le_of_lt hsz)
      first
        | (rw [List.map_append]; exact h9)
        | (simp only [List.map_nil, List.append_nil] at h9; exact h9)

set_option maxHeartbeats 1000000 in
theorem specSch_T (s : ByteArray) (w : World) (hs : s.toList = [84]) :
    Calls Try.prog 47 #[.string s] w fun e w' => ∃ v', e = .returned v' ∧ w'.ownsRow w.heap.size 2 1 v' 14 ((upTo 13 ++ [13]).map (Value.int .i64)) ∧ Below w.heap.size w w' := by
  obtain ⟨i0, hi, hz0, hz1, hz2⟩ := info_parts info_i64
  have hB1 : Below w.heap.size w ((w.alloc (.cells #[] 2)).alloc (.cells #[.int .i64 13] 2)) := ((Below.refl _ _).alloc (Nat.le_refl _) _).alloc (by simp) _
  have hnew : ∀ j q, (([13] : List Int).map (Value.int .i64))[j]? = some q → ((w.alloc (.cells #[] 2)).alloc (.cells #[.int .i64 13] 2)).cell? ((⟨w.heap.size + 1, 0, none⟩ : Addr).add j) = some q := by
    have h9 := news_list (w.alloc (.cells #[] 2)) [13] 2
    rw [show (w.alloc (.cells #[] 2)).heap.size = w.heap.size + 1 by simp] at h9
    exact h9
  have hsz : w.heap.size < ((w.alloc (.cells #[] 2)).alloc (.cells #[.int .i64 13] 2)).heap.size := by simp; omega
  have hse := Lib.hid (show ((w.alloc (.cells #[] 2)).alloc (.cells #[.int .i64 13] 2)).heap.size = w.heap.size + 2 by simp)
  go_enter Try.func47, Try.ntmps47
  go_wp2_with fail
  generalize hw1 : (w.alloc (.cells #[] 2)).alloc (.cells #[.int .i64 13] 2) = w1 at *
  have hw1 := Lib.hid hw1
  replace hnew := Lib.hid hnew
  replace hs := Lib.hid hs
  go_loopw [5, 6] (fun z i wr => ∃ k : Nat, k ≤ 13 ∧ i = .int .i64 k ∧ Hid (wr.ownsRow w1.heap.size 2 1 z k ((upTo k).map (Value.int .i64))) ∧ Below w1.heap.size w1 wr) (fun _ i _ => 13 - (intOf i).toNat)
  case atStart =>
    refine ⟨0, by omega, rfl, ?_, (Below.refl _ _).alloc (Nat.le_refl _) _⟩
    have h9 : (w1.alloc (.cells #[] 2)).ownsRow w1.heap.size 2 1 (.slice (some ⟨w1.heap.size, 0, none⟩) 0 0) 0 ((upTo 0).map (Value.int .i64)) := World.ownsRow_lit w1 #[] 0 (Nat.le_refl _) (by simp [maxLen]) rfl
    show World.ownsRow _ _ _ _ _ _ _
    rw [hse.out]
    rw [hse.out] at h9
    exact h9
  case round =>
    obtain ⟨k, hk, rfl, ho, hb⟩ := hrel
    have hbs := hb.size
    by_cases hlt : k < 13
    · have hki : (k : Int) < 13 := by omega
      have hoA := Lib.hid (ho.out.alloc (.cells #[.int .i64 k] 2))
      have hn1 := Lib.hid (cell_one_new wr (.int .i64 k) 2)
      go_wp2_with (at_builtin; refine wpList_append_own _ rfl _ _ 29 rfl w1.heap.size 2 i0 (.int .i64 0) 1 8 Try.underlying29 hi hz0 hz1 hz2 rfl (by decide) _ _ _ rfl hoA.out ⟨wr.heap.size, 0, none⟩ 1 1 [.int .i64 k] rfl rfl hn1.out (by simp [Value.oneCell']) (by unfold maxLen; omega) (by omega) (by simp; omega) ?_; intro v1 w2 hown1 hgrow1 _)
      go_roundw
      case rel =>
        refine ⟨k + 1, by omega, by go_num, ?_, (hb.alloc hbs _).grown hgrow1 (by simp; omega) (fun j hj => (ho.out.lt j hj).1)⟩
        show World.ownsRow _ _ _ _ _ _ _
        rw [upTo_succ, List.map_append]
        exact hown1
      case measure => simp [intOf]; omega
    · obtain rfl : k = 13 := by omega
      have hsrc := Lib.hid (show ∀ j q, (([13] : List Int).map (Value.int .i64))[j]? = some q → wr.cell? ((⟨w.heap.size + 1, 0, none⟩ : Addr).add j) = some q from fun j q hq => (hb.cell (World.block_lt_of_cell? w1 _ (hnew.out j q hq))).trans (hnew.out j q hq))
      have hone := Lib.hid (ints_oneCell [13])
      go_wp2_with (at_builtin; refine wpList_append_own _ rfl _ _ 29 rfl w1.heap.size 2 i0 (.int .i64 0) 1 8 Try.underlying29 hi hz0 hz1 hz2 rfl (by decide) _ _ _ rfl ho.out ⟨w.heap.size + 1, 0, none⟩ 1 1 (([13] : List Int).map (Value.int .i64)) rfl rfl hsrc.out hone.out (by unfold maxLen; omega) (by omega) hbs ?_; intro v1 w2 hown1 hgrow1 _)
      go_ret
      refine ⟨_, rfl, ?_, hB1.trans ((hb.grown hgrow1 hbs (fun j hj => (ho.out.lt j hj).1)).mono (Nat.le_of_lt hsz))⟩
      have h9 := own_mono hown1 (Nat.le_of_lt hsz)
      first
        | (rw [List.map_append]; exact h9)
        | (simp only [List.map_nil, List.append_nil] at h9; exact h9)

set_option maxHeartbeats 1000000 in
theorem specSch_K4 (s : ByteArray) (w : World) (hs : s.toList = [75, 52]) :
    Calls Try.prog 47 #[.string s] w fun e w' => ∃ v', e = .returned v' ∧ w'.ownsRow w.heap.size 2 1 v' 14 ((upTo 13 ++ [14]).map (Value.int .i64)) ∧ Below w.heap.size w w' := by
  obtain ⟨i0, hi, hz0, hz1, hz2⟩ := info_parts info_i64
  have hB1 : Below w.heap.size w ((w.alloc (.cells #[] 2)).alloc (.cells #[.int .i64 14] 2)) := ((Below.refl _ _).alloc (Nat.le_refl _) _).alloc (by simp) _
  have hnew : ∀ j q, (([14] : List Int).map (Value.int .i64))[j]? = some q → ((w.alloc (.cells #[] 2)).alloc (.cells #[.int .i64 14] 2)).cell? ((⟨w.heap.size + 1, 0, none⟩ : Addr).add j) = some q := by
    have h9 := news_list (w.alloc (.cells #[] 2)) [14] 2
    rw [show (w.alloc (.cells #[] 2)).heap.size = w.heap.size + 1 by simp] at h9
    exact h9
  have hsz : w.heap.size < ((w.alloc (.cells #[] 2)).alloc (.cells #[.int .i64 14] 2)).heap.size := by simp; omega
  have hse := Lib.hid (show ((w.alloc (.cells #[] 2)).alloc (.cells #[.int .i64 14] 2)).heap.size = w.heap.size + 2 by simp)
  go_enter Try.func47, Try.ntmps47
  go_wp2_with fail
  generalize hw1 : (w.alloc (.cells #[] 2)).alloc (.cells #[.int .i64 14] 2) = w1 at *
  have hw1 := Lib.hid hw1
  replace hnew := Lib.hid hnew
  replace hs := Lib.hid hs
  go_loopw [5, 6] (fun z i wr => ∃ k : Nat, k ≤ 13 ∧ i = .int .i64 k ∧ Hid (wr.ownsRow w1.heap.size 2 1 z k ((upTo k).map (Value.int .i64))) ∧ Below w1.heap.size w1 wr) (fun _ i _ => 13 - (intOf i).toNat)
  case atStart =>
    refine ⟨0, by omega, rfl, ?_, (Below.refl _ _).alloc (Nat.le_refl _) _⟩
    have h9 : (w1.alloc (.cells #[] 2)).ownsRow w1.heap.size 2 1 (.slice (some ⟨w1.heap.size, 0, none⟩) 0 0) 0 ((upTo 0).map (Value.int .i64)) := World.ownsRow_lit w1 #[] 0 (Nat.le_refl _) (by simp [maxLen]) rfl
    show World.ownsRow _ _ _ _ _ _ _
    rw [hse.out]
    rw [hse.out] at h9
    exact h9
  case round =>
    obtain ⟨k, hk, rfl, ho, hb⟩ := hrel
    have hbs := hb.size
    by_cases hlt : k < 13
    · have hki : (k : Int) < 13 := by omega
      have hoA := Lib.hid (ho.out.alloc (.cells #[.int .i64 k] 2))
      have hn1 := Lib.hid (cell_one_new wr (.int .i64 k) 2)
      go_wp2_with (at_builtin; refine wpList_append_own _ rfl _ _ 29 rfl w1.heap.size 2 i0 (.int .i64 0) 1 8 Try.underlying29 hi hz0 hz1 hz2 rfl (by decide) _ _ _ rfl hoA.out ⟨wr.heap.size, 0, none⟩ 1 1 [.int .i64 k] rfl rfl hn1.out (by simp [Value.oneCell']) (by unfold maxLen; omega) (by omega) (by simp; omega) ?_; intro v1 w2 hown1 hgrow1 _)
      go_roundw
      case rel =>
        refine ⟨k + 1, by omega, by go_num, ?_, (hb.alloc hbs _).grown hgrow1 (by simp; omega) (fun j hj => (ho.out.lt j hj).1)⟩
        show World.ownsRow _ _ _ _ _ _ _
        rw [upTo_succ, List.map_append]
        exact hown1
      case measure => simp [intOf]; omega
    · obtain rfl : k = 13 := by omega
      have hsrc := Lib.hid (show ∀ j q, (([14] : List Int).map (Value.int .i64))[j]? = some q → wr.cell? ((⟨w.heap.size + 1, 0, none⟩ : Addr).add j) = some q from fun j q hq => (hb.cell (World.block_lt_of_cell? w1 _ (hnew.out j q hq))).trans (hnew.out j q hq))
      have hone := Lib.hid (ints_oneCell [14])
      go_wp2_with (at_builtin; refine wpList_append_own _ rfl _ _ 29 rfl w1.heap.size 2 i0 (.int .i64 0) 1 8 Try.underlying29 hi hz0 hz1 hz2 rfl (by decide) _ _ _ rfl ho.out ⟨w.heap.size + 1, 0, none⟩ 1 1 (([14] : List Int).map (Value.int .i64)) rfl rfl hsrc.out hone.out (by unfold maxLen; omega) (by omega) hbs ?_; intro v1 w2 hown1 hgrow1 _)
      go_ret
      refine ⟨_, rfl, ?_, hB1.trans ((hb.grown hgrow1 hbs (fun j hj => (ho.out.lt j hj).1)).mono (Nat.le_of_lt hsz))⟩
      have h9 := own_mono hown1 (Nat.le_of_lt hsz)
      first
        | (rw [List.map_append]; exact h9)
        | (simp only [List.map_nil, List.append_nil] at h9; exact h9)

set_option maxHeartbeats 1000000 in
theorem specSch_S4 (s : ByteArray) (w : World) (hs : s.toList = [83, 52]) :
    Calls Try.prog 47 #[.string s] w fun e w' => ∃ v', e = .returned v' ∧ w'.ownsRow w.heap.size 2 1 v' 15 ((upTo 13 ++ [13, 14]).map (Value.int .i64)) ∧ Below w.heap.size w w' := by
  obtain ⟨i0, hi, hz0, hz1, hz2⟩ := info_parts info_i64
  have hB1 : Below w.heap.size w ((w.alloc (.cells #[] 2)).alloc (.cells #[.int .i64 13, .int .i64 14] 2)) := ((Below.refl _ _).alloc (Nat.le_refl _) _).alloc (by simp) _
  have hnew : ∀ j q, (([13, 14] : List Int).map (Value.int .i64))[j]? = some q → ((w.alloc (.cells #[] 2)).alloc (.cells #[.int .i64 13, .int .i64 14] 2)).cell? ((⟨w.heap.size + 1, 0, none⟩ : Addr).add j) = some q := by
    have h9 := news_list (w.alloc (.cells #[] 2)) [13, 14] 2
    rw [show (w.alloc (.cells #[] 2)).heap.size = w.heap.size + 1 by simp] at h9
    exact h9
  have hsz : w.heap.size < ((w.alloc (.cells #[] 2)).alloc (.cells #[.int .i64 13, .int .i64 14] 2)).heap.size := by simp; omega
  have hse := Lib.hid (show ((w.alloc (.cells #[] 2)).alloc (.cells #[.int .i64 13, .int .i64 14] 2)).heap.size = w.heap.size + 2 by simp)
  go_enter Try.func47, Try.ntmps47
  go_wp2_with fail
  generalize hw1 : (w.alloc (.cells #[] 2)).alloc (.cells #[.int .i64 13, .int .i64 14] 2) = w1 at *
  have hw1 := Lib.hid hw1
  replace hnew := Lib.hid hnew
  replace hs := Lib.hid hs
  go_loopw [5, 6] (fun z i wr => ∃ k : Nat, k ≤ 13 ∧ i = .int .i64 k ∧ Hid (wr.ownsRow w1.heap.size 2 1 z k ((upTo k).map (Value.int .i64))) ∧ Below w1.heap.size w1 wr) (fun _ i _ => 13 - (intOf i).toNat)
  case atStart =>
    refine ⟨0, by omega, rfl, ?_, (Below.refl _ _).alloc (Nat.le_refl _) _⟩
    have h9 : (w1.alloc (.cells #[] 2)).ownsRow w1.heap.size 2 1 (.slice (some ⟨w1.heap.size, 0, none⟩) 0 0) 0 ((upTo 0).map (Value.int .i64)) := World.ownsRow_lit w1 #[] 0 (Nat.le_refl _) (by simp [maxLen]) rfl
    show World.ownsRow _ _ _ _ _ _ _
    rw [hse.out]
    rw [hse.out] at h9
    exact h9
  case round =>
    obtain ⟨k, hk, rfl, ho, hb⟩ := hrel
    have hbs := hb.size
    by_cases hlt : k < 13
    · have hki : (k : Int) < 13 := by omega
      have hoA := Lib.hid (ho.out.alloc (.cells #[.int .i64 k] 2))
      have hn1 := Lib.hid (cell_one_new wr (.int .i64 k) 2)
      go_wp2_with (at_builtin; refine wpList_append_own _ rfl _ _ 29 rfl w1.heap.size 2 i0 (.int .i64 0) 1 8 Try.underlying29 hi hz0 hz1 hz2 rfl (by decide) _ _ _ rfl hoA.out ⟨wr.heap.size, 0, none⟩ 1 1 [.int .i64 k] rfl rfl hn1.out (by simp [Value.oneCell']) (by unfold maxLen; omega) (by omega) (by simp; omega) ?_; intro v1 w2 hown1 hgrow1 _)
      go_roundw
      case rel =>
        refine ⟨k + 1, by omega, by go_num, ?_, (hb.alloc hbs _).grown hgrow1 (by simp; omega) (fun j hj => (ho.out.lt j hj).1)⟩
        show World.ownsRow _ _ _ _ _ _ _
        rw [upTo_succ, List.map_append]
        exact hown1
      case measure => simp [intOf]; omega
    · obtain rfl : k = 13 := by omega
      have hsrc := Lib.hid (show ∀ j q, (([13, 14] : List Int).map (Value.int .i64))[j]? = some q → wr.cell? ((⟨w.heap.size + 1, 0, none⟩ : Addr).add j) = some q from fun j q hq => (hb.cell (World.block_lt_of_cell? w1 _ (hnew.out j q hq))).trans (hnew.out j q hq))
      have hone := Lib.hid (ints_oneCell [13, 14])
      go_wp2_with (at_builtin; refine wpList_append_own _ rfl _ _ 29 rfl w1.heap.size 2 i0 (.int .i64 0) 1 8 Try.underlying29 hi hz0 hz1 hz2 rfl (by decide) _ _ _ rfl ho.out ⟨w.heap.size + 1, 0, none⟩ 2 2 (([13, 14] : List Int).map (Value.int .i64)) rfl rfl hsrc.out hone.out (by unfold maxLen; omega) (by omega) hbs ?_; intro v1 w2 hown1 hgrow1 _)
      go_ret
      refine ⟨_, rfl, ?_, hB1.trans ((hb.grown hgrow1 hbs (fun j hj => (ho.out.lt j hj).1)).mono (Nat.le_of_lt hsz))⟩
      have h9 := own_mono hown1 (Nat.le_of_lt hsz)
      first
        | (rw [List.map_append]; exact h9)
        | (simp only [List.map_nil, List.append_nil] at h9; exact h9)

set_option maxHeartbeats 1000000 in
theorem specSch_S5 (s : ByteArray) (w : World) (hs : s.toList = [83, 53]) :
    Calls Try.prog 47 #[.string s] w fun e w' => ∃ v', e = .returned v' ∧ w'.ownsRow w.heap.size 2 1 v' 15 ((upTo 13 ++ [13, 15]).map (Value.int .i64)) ∧ Below w.heap.size w w' := by
  obtain ⟨i0, hi, hz0, hz1, hz2⟩ := info_parts info_i64
  have hB1 : Below w.heap.size w ((w.alloc (.cells #[] 2)).alloc (.cells #[.int .i64 13, .int .i64 15] 2)) := ((Below.refl _ _).alloc (Nat.le_refl _) _).alloc (by simp) _
  have hnew : ∀ j q, (([13, 15] : List Int).map (Value.int .i64))[j]? = some q → ((w.alloc (.cells #[] 2)).alloc (.cells #[.int .i64 13, .int .i64 15] 2)).cell? ((⟨w.heap.size + 1, 0, none⟩ : Addr).add j) = some q := by
    have h9 := news_list (w.alloc (.cells #[] 2)) [13, 15] 2
    rw [show (w.alloc (.cells #[] 2)).heap.size = w.heap.size + 1 by simp] at h9
    exact h9
  have hsz : w.heap.size < ((w.alloc (.cells #[] 2)).alloc (.cells #[.int .i64 13, .int .i64 15] 2)).heap.size := by simp; omega
  have hse := Lib.hid (show ((w.alloc (.cells #[] 2)).alloc (.cells #[.int .i64 13, .int .i64 15] 2)).heap.size = w.heap.size + 2 by simp)
  go_enter Try.func47, Try.ntmps47
  go_wp2_with fail
  generalize hw1 : (w.alloc (.cells #[] 2)).alloc (.cells #[.int .i64 13, .int .i64 15] 2) = w1 at *
  have hw1 := Lib.hid hw1
  replace hnew := Lib.hid hnew
  replace hs := Lib.hid hs
  go_loopw [5, 6] (fun z i wr => ∃ k : Nat, k ≤ 13 ∧ i = .int .i64 k ∧ Hid (wr.ownsRow w1.heap.size 2 1 z k ((upTo k).map (Value.int .i64))) ∧ Below w1.heap.size w1 wr) (fun _ i _ => 13 - (intOf i).toNat)
  case atStart =>
    refine ⟨0, by omega, rfl, ?_, (Below.refl _ _).alloc (Nat.le_refl _) _⟩
    have h9 : (w1.alloc (.cells #[] 2)).ownsRow w1.heap.size 2 1 (.slice (some ⟨w1.heap.size, 0, none⟩) 0 0) 0 ((upTo 0).map (Value.int .i64)) := World.ownsRow_lit w1 #[] 0 (Nat.le_refl _) (by simp [maxLen]) rfl
    show World.ownsRow _ _ _ _ _ _ _
    rw [hse.out]
    rw [hse.out] at h9
    exact h9
  case round =>
    obtain ⟨k, hk, rfl, ho, hb⟩ := hrel
    have hbs := hb.size
    by_cases hlt : k < 13
    · have hki : (k : Int) < 13 := by omega
      have hoA := Lib.hid (ho.out.alloc (.cells #[.int .i64 k] 2))
      have hn1 := Lib.hid (cell_one_new wr (.int .i64 k) 2)
      go_wp2_with (at_builtin; refine wpList_append_own _ rfl _ _ 29 rfl w1.heap.size 2 i0 (.int .i64 0) 1 8 Try.underlying29 hi hz0 hz1 hz2 rfl (by decide) _ _ _ rfl hoA.out ⟨wr.heap.size, 0, none⟩ 1 1 [.int .i64 k] rfl rfl hn1.out (by simp [Value.oneCell']) (by unfold maxLen; omega) (by omega) (by simp; omega) ?_; intro v1 w2 hown1 hgrow1 _)
      go_roundw
      case rel =>
        refine ⟨k + 1, by omega, by go_num, ?_, (hb.alloc hbs _).grown hgrow1 (by simp; omega) (fun j hj => (ho.out.lt j hj).1)⟩
        show World.ownsRow _ _ _ _ _ _ _
        rw [upTo_succ, List.map_append]
        exact hown1
      case measure => simp [intOf]; omega
    · obtain rfl : k = 13 := by omega
      have hsrc := Lib.hid (show ∀ j q, (([13, 15] : List Int).map (Value.int .i64))[j]? = some q → wr.cell? ((⟨w.heap.size + 1, 0, none⟩ : Addr).add j) = some q from fun j q hq => (hb.cell (World.block_lt_of_cell? w1 _ (hnew.out j q hq))).trans (hnew.out j q hq))
      have hone := Lib.hid (ints_oneCell [13, 15])
      go_wp2_with (at_builtin; refine wpList_append_own _ rfl _ _ 29 rfl w1.heap.size 2 i0 (.int .i64 0) 1 8 Try.underlying29 hi hz0 hz1 hz2 rfl (by decide) _ _ _ rfl ho.out ⟨w.heap.size + 1, 0, none⟩ 2 2 (([13, 15] : List Int).map (Value.int .i64)) rfl rfl hsrc.out hone.out (by unfold maxLen; omega) (by omega) hbs ?_; intro v1 w2 hown1 hgrow1 _)
      go_ret
      refine ⟨_, rfl, ?_, hB1.trans ((hb.grown hgrow1 hbs (fun j hj => (ho.out.lt j hj).1)).mono (Nat.le_of_lt hsz))⟩
      have h9 := own_mono hown1 (Nat.le_of_lt hsz)
      first
        | (rw [List.map_append]; exact h9)
        | (simp only [List.map_nil, List.append_nil] at h9; exact h9)

set_option maxHeartbeats 1000000 in
theorem specSch_KB (s : ByteArray) (w : World) (hs : s.toList = [75, 66]) :
    Calls Try.prog 47 #[.string s] w fun e w' => ∃ v', e = .returned v' ∧ w'.ownsRow w.heap.size 2 1 v' 14 ((upTo 13 ++ [16]).map (Value.int .i64)) ∧ Below w.heap.size w w' := by
  obtain ⟨i0, hi, hz0, hz1, hz2⟩ := info_parts info_i64
  have hB1 : Below w.heap.size w ((w.alloc (.cells #[] 2)).alloc (.cells #[.int .i64 16] 2)) := ((Below.refl _ _).alloc (Nat.le_refl _) _).alloc (by simp) _
  have hnew : ∀ j q, (([16] : List Int).map (Value.int .i64))[j]? = some q → ((w.alloc (.cells #[] 2)).alloc (.cells #[.int .i64 16] 2)).cell? ((⟨w.heap.size + 1, 0, none⟩ : Addr).add j) = some q := by
    have h9 := news_list (w.alloc (.cells #[] 2)) [16] 2
    rw [show (w.alloc (.cells #[] 2)).heap.size = w.heap.size + 1 by simp] at h9
    exact h9
  have hsz : w.heap.size < ((w.alloc (.cells #[] 2)).alloc (.cells #[.int .i64 16] 2)).heap.size := by simp; omega
  have hse := Lib.hid (show ((w.alloc (.cells #[] 2)).alloc (.cells #[.int .i64 16] 2)).heap.size = w.heap.size + 2 by simp)
  go_enter Try.func47, Try.ntmps47
  go_wp2_with fail
  generalize hw1 : (w.alloc (.cells #[] 2)).alloc (.cells #[.int .i64 16] 2) = w1 at *
  have hw1 := Lib.hid hw1
  replace hnew := Lib.hid hnew
  replace hs := Lib.hid hs
  go_loopw [5, 6] (fun z i wr => ∃ k : Nat, k ≤ 13 ∧ i = .int .i64 k ∧ Hid (wr.ownsRow w1.heap.size 2 1 z k ((upTo k).map (Value.int .i64))) ∧ Below w1.heap.size w1 wr) (fun _ i _ => 13 - (intOf i).toNat)
  case atStart =>
    refine ⟨0, by omega, rfl, ?_, (Below.refl _ _).alloc (Nat.le_refl _) _⟩
    have h9 : (w1.alloc (.cells #[] 2)).ownsRow w1.heap.size 2 1 (.slice (some ⟨w1.heap.size, 0, none⟩) 0 0) 0 ((upTo 0).map (Value.int .i64)) := World.ownsRow_lit w1 #[] 0 (Nat.le_refl _) (by simp [maxLen]) rfl
    show World.ownsRow _ _ _ _ _ _ _
    rw [hse.out]
    rw [hse.out] at h9
    exact h9
  case round =>
    obtain ⟨k, hk, rfl, ho, hb⟩ := hrel
    have hbs := hb.size
    by_cases hlt : k < 13
    · have hki : (k : Int) < 13 := by omega
      have hoA := Lib.hid (ho.out.alloc (.cells #[.int .i64 k] 2))
      have hn1 := Lib.hid (cell_one_new wr (.int .i64 k) 2)
      go_wp2_with (at_builtin; refine wpList_append_own _ rfl _ _ 29 rfl w1.heap.size 2 i0 (.int .i64 0) 1 8 Try.underlying29 hi hz0 hz1 hz2 rfl (by decide) _ _ _ rfl hoA.out ⟨wr.heap.size, 0, none⟩ 1 1 [.int .i64 k] rfl rfl hn1.out (by simp [Value.oneCell']) (by unfold maxLen; omega) (by omega) (by simp; omega) ?_; intro v1 w2 hown1 hgrow1 _)
      go_roundw
      case rel =>
        refine ⟨k + 1, by omega, by go_num, ?_, (hb.alloc hbs _).grown hgrow1 (by simp; omega) (fun j hj => (ho.out.lt j hj).1)⟩
        show World.ownsRow _ _ _ _ _ _ _
        rw [upTo_succ, List.map_append]
        exact hown1
      case measure => simp [intOf]; omega
    · obtain rfl : k = 13 := by omega
      have hsrc := Lib.hid (show ∀ j q, (([16] : List Int).map (Value.int .i64))[j]? = some q → wr.cell? ((⟨w.heap.size + 1, 0, none⟩ : Addr).add j) = some q from fun j q hq => (hb.cell (World.block_lt_of_cell? w1 _ (hnew.out j q hq))).trans (hnew.out j q hq))
      have hone := Lib.hid (ints_oneCell [16])
      go_wp2_with (at_builtin; refine wpList_append_own _ rfl _ _ 29 rfl w1.heap.size 2 i0 (.int .i64 0) 1 8 Try.underlying29 hi hz0 hz1 hz2 rfl (by decide) _ _ _ rfl ho.out ⟨w.heap.size + 1, 0, none⟩ 1 1 (([16] : List Int).map (Value.int .i64)) rfl rfl hsrc.out hone.out (by unfold maxLen; omega) (by omega) hbs ?_; intro v1 w2 hown1 hgrow1 _)
      go_ret
      refine ⟨_, rfl, ?_, hB1.trans ((hb.grown hgrow1 hbs (fun j hj => (ho.out.lt j hj).1)).mono (Nat.le_of_lt hsz))⟩
      have h9 := own_mono hown1 (Nat.le_of_lt hsz)
      first
        | (rw [List.map_append]; exact h9)
        | (simp only [List.map_nil, List.append_nil] at h9; exact h9)

set_option maxHeartbeats 1000000 in
theorem specSch_GL (s : ByteArray) (w : World) (hs : s.toList = [71, 76]) :
    Calls Try.prog 47 #[.string s] w fun e w' => ∃ v', e = .returned v' ∧ w'.ownsRow w.heap.size 2 1 v' 14 ((upTo 13 ++ [18]).map (Value.int .i64)) ∧ Below w.heap.size w w' := by
  obtain ⟨i0, hi, hz0, hz1, hz2⟩ := info_parts info_i64
  have hB1 : Below w.heap.size w ((w.alloc (.cells #[] 2)).alloc (.cells #[.int .i64 18] 2)) := ((Below.refl _ _).alloc (Nat.le_refl _) _).alloc (by simp) _
  have hnew : ∀ j q, (([18] : List Int).map (Value.int .i64))[j]? = some q → ((w.alloc (.cells #[] 2)).alloc (.cells #[.int .i64 18] 2)).cell? ((⟨w.heap.size + 1, 0, none⟩ : Addr).add j) = some q := by
    have h9 := news_list (w.alloc (.cells #[] 2)) [18] 2
    rw [show (w.alloc (.cells #[] 2)).heap.size = w.heap.size + 1 by simp] at h9
    exact h9
  have hsz : w.heap.size < ((w.alloc (.cells #[] 2)).alloc (.cells #[.int .i64 18] 2)).heap.size := by simp; omega
  have hse := Lib.hid (show ((w.alloc (.cells #[] 2)).alloc (.cells #[.int .i64 18] 2)).heap.size = w.heap.size + 2 by simp)
  go_enter Try.func47, Try.ntmps47
  go_wp2_with fail
  generalize hw1 : (w.alloc (.cells #[] 2)).alloc (.cells #[.int .i64 18] 2) = w1 at *
  have hw1 := Lib.hid hw1
  replace hnew := Lib.hid hnew
  replace hs := Lib.hid hs
  go_loopw [5, 6] (fun z i wr => ∃ k : Nat, k ≤ 13 ∧ i = .int .i64 k ∧ Hid (wr.ownsRow w1.heap.size 2 1 z k ((upTo k).map (Value.int .i64))) ∧ Below w1.heap.size w1 wr) (fun _ i _ => 13 - (intOf i).toNat)
  case atStart =>
    refine ⟨0, by omega, rfl, ?_, (Below.refl _ _).alloc (Nat.le_refl _) _⟩
    have h9 : (w1.alloc (.cells #[] 2)).ownsRow w1.heap.size 2 1 (.slice (some ⟨w1.heap.size, 0, none⟩) 0 0) 0 ((upTo 0).map (Value.int .i64)) := World.ownsRow_lit w1 #[] 0 (Nat.le_refl _) (by simp [maxLen]) rfl
    show World.ownsRow _ _ _ _ _ _ _
    rw [hse.out]
    rw [hse.out] at h9
    exact h9
  case round =>
    obtain ⟨k, hk, rfl, ho, hb⟩ := hrel
    have hbs := hb.size
    by_cases hlt : k < 13
    · have hki : (k : Int) < 13 := by omega
      have hoA := Lib.hid (ho.out.alloc (.cells #[.int .i64 k] 2))
      have hn1 := Lib.hid (cell_one_new wr (.int .i64 k) 2)
      go_wp2_with (at_builtin; refine wpList_append_own _ rfl _ _ 29 rfl w1.heap.size 2 i0 (.int .i64 0) 1 8 Try.underlying29 hi hz0 hz1 hz2 rfl (by decide) _ _ _ rfl hoA.out ⟨wr.heap.size, 0, none⟩ 1 1 [.int .i64 k] rfl rfl hn1.out (by simp [Value.oneCell']) (by unfold maxLen; omega) (by omega) (by simp; omega) ?_; intro v1 w2 hown1 hgrow1 _)
      go_roundw
      case rel =>
        refine ⟨k + 1, by omega, by go_num, ?_, (hb.alloc hbs _).grown hgrow1 (by simp; omega) (fun j hj => (ho.out.lt j hj).1)⟩
        show World.ownsRow _ _ _ _ _ _ _
        rw [upTo_succ, List.map_append]
        exact hown1
      case measure => simp [intOf]; omega
    · obtain rfl : k = 13 := by omega
      have hsrc := Lib.hid (show ∀ j q, (([18] : List Int).map (Value.int .i64))[j]? = some q → wr.cell? ((⟨w.heap.size + 1, 0, none⟩ : Addr).add j) = some q from fun j q hq => (hb.cell (World.block_lt_of_cell? w1 _ (hnew.out j q hq))).trans (hnew.out j q hq))
      have hone := Lib.hid (ints_oneCell [18])
      go_wp2_with (at_builtin; refine wpList_append_own _ rfl _ _ 29 rfl w1.heap.size 2 i0 (.int .i64 0) 1 8 Try.underlying29 hi hz0 hz1 hz2 rfl (by decide) _ _ _ rfl ho.out ⟨w.heap.size + 1, 0, none⟩ 1 1 (([18] : List Int).map (Value.int .i64)) rfl rfl hsrc.out hone.out (by unfold maxLen; omega) (by omega) hbs ?_; intro v1 w2 hown1 hgrow1 _)
      go_ret
      refine ⟨_, rfl, ?_, hB1.trans ((hb.grown hgrow1 hbs (fun j hj => (ho.out.lt j hj).1)).mono (Nat.le_of_lt hsz))⟩
      have h9 := own_mono hown1 (Nat.le_of_lt hsz)
      first
        | (rw [List.map_append]; exact h9)
        | (simp only [List.map_nil, List.append_nil] at h9; exact h9)

end Go.Proofs.Ytfedipeabbaccaa
