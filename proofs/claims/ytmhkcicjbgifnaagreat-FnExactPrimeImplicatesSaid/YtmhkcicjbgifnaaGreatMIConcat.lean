/- slices.Grow and slices.Concat at []int64, for two slices that may be empty; a list without one of its places. -/
import Derived.Test.YtmhkcicjbgifnaaGreatMListFns
import Derived.Maps.AppendAt
import Derived.Deep.AppendLies
import Derived.Deep.RegionWith

namespace Go.Proofs.YtmhkcicjbgifnaaGreat
open Go.RowKit

theorem info_int64 : (Tryz.prog.info? 2).map (fun i => (i.zero, i.size, i.bytes)) = some (some (.int .i64 0), 1, 8) := by kernel_rfl
set_option maxHeartbeats 1000000 in
set_option maxRecDepth 100000 in
theorem growI_any (n : Nat) (hn : n ≤ 1000000) (w : World) :
    Calls Tryz.prog 95 #[.slice none 0 0, .int .i64 (n : Int)] w fun e w' => ∃ v, e = .returned v ∧ w'.ownsRow w.heap.size 2 1 v 0 [] ∧ Below w.heap.size w w' := by
  obtain ⟨i0, hi, hz0, hz1, hz2⟩ := info_parts info_int64
  rcases Nat.eq_zero_or_pos n with h0 | h0
  · subst h0
    go_enter Tryz.func95, Tryz.ntmps95
    go_wp2_with fail
    go_ret
    exact ⟨.slice none 0 0, rfl, World.ownsRow_nil _ _ _ _, Below.refl _ _⟩
  have happ := Lib.run_append_nil_zeros (P := Tryz.prog) w 48 3 48 2 i0 (.int .i64 0) .i64 .i64 Tryz.underlying48 Tryz.underlying3 hi hz0 n (by omega) (by omega) (by omega) (by rw [hz2]; omega)
  generalize hcap : grownCap w n 0 2 = cap2 at happ
  have hcapge : n ≤ cap2 := by rw [← hcap]; exact grownCap_ge w _ 0 2
  have hcaple : cap2 ≤ maxLen := by rw [← hcap]; exact grownCap_le_maxLen w _ 0 2 (by unfold maxLen; omega)
  generalize hZ : (Builtin.zeroCells (Value.int .i64 0).cells n ++ Builtin.zeroCells (Value.int .i64 0).cells (cap2 - n)) = Z at happ
  have hZs : Z.size = cap2 * 1 := by
    rw [← hZ]
    simp only [Array.size_append, size_zeroCells]
    rw [show (Value.int .i64 0).cells.size = 1 from rfl, ← Nat.add_mul]
    congr 1
    omega
  have hcm := hcaple
  unfold maxLen at hcm
  have hcaple := Lib.hid hcaple
  have hZs := Lib.hid hZs
  clear hcap hZ
  go_enter Tryz.func95, Tryz.ntmps95
  go_wp2_with (at_builtin; refine Lib.wpList_append_run _ rfl _ _ _ _ rfl _ _ rfl rfl _ _ happ ?_)
  go_ret
  refine ⟨_, rfl, ⟨by simp, .inr ⟨w.heap.size, cap2, Z, rfl, Nat.le_refl _, heap_alloc_new w.drew _, Nat.zero_le _, hcaple.out, hZs.out, by simp⟩⟩, Below.alloc (Below.drew (Below.refl _ _)) (Nat.le_refl _) _⟩

set_option maxHeartbeats 4000000 in
set_option maxRecDepth 100000 in
theorem concat2_any (g : Nat) (ad1 ad2 : Addr) (n1 c1 n2 c2 : Nat) (xs1 xs2 : List Int) (w : World) (h1 : w.cell? ⟨g, 0, none⟩ = some (.slice (some ad1) n1 c1)) (h2 : w.cell? ⟨g, 1, none⟩ = some (.slice (some ad2) n2 c2)) (l1 : xs1.length = n1) (l2 : xs2.length = n2)
    (s1 : ∀ j u, (xs1.map (Value.int .i64))[j]? = some u → w.cell? (ad1.add j) = some u) (s2 : ∀ j u, (xs2.map (Value.int .i64))[j]? = some u → w.cell? (ad2.add j) = some u) (hn1 : n1 ≤ 1000) (hn2 : n2 ≤ 1000) :
    Calls Tryz.prog 73 #[.slice (some ⟨g, 0, none⟩) 2 2] w fun e w' => ∃ v', e = .returned v' ∧ w'.ownsRow w.heap.size 2 1 v' (n1 + n2) ((xs1 ++ xs2).map (Value.int .i64)) ∧ Below w.heap.size w w' := by
  obtain ⟨i0, hi, hz0, hz1, hz2⟩ := info_parts info_int64
  have hs1 := Lib.hid (fun W (hW : Below w.heap.size w W) => show ∀ j u, (xs1.map (Value.int .i64))[j]? = some u → W.cell? (ad1.add j) = some u from fun j u hu => keep_cell hW (s1 j u hu))
  have hs2 := Lib.hid (fun W (hW : Below w.heap.size w W) => show ∀ j u, (xs2.map (Value.int .i64))[j]? = some u → W.cell? (ad2.add j) = some u from fun j u hu => keep_cell hW (s2 j u hu))
  have hl1 := Lib.hid (show (xs1.map (Value.int .i64)).length = n1 * 1 by rw [List.length_map]; omega)
  have hl2 := Lib.hid (show (xs2.map (Value.int .i64)).length = n2 * 1 by rw [List.length_map]; omega)
  have ho1 := Lib.hid (ints_oneCell xs1)
  have ho2 := Lib.hid (ints_oneCell xs2)
  have hcat := Lib.hid (show xs1.map (Value.int .i64) ++ xs2.map (Value.int .i64) = (xs1 ++ xs2).map (Value.int .i64) by rw [List.map_append])
  clear s1 s2 l1 l2
  generalize (xs1 ++ xs2).map (Value.int .i64) = XS at *
  generalize xs1.map (Value.int .i64) = X1 at *
  generalize xs2.map (Value.int .i64) = X2 at *
  go_enter Tryz.func73, Tryz.ntmps73
  go_wp2_with fail
  go_loop [3, 11] (fun s i => (i = .int .i64 0 ∧ s = .int .i64 0) ∨ (i = .int .i64 1 ∧ s = .int .i64 (n1 : Int)) ∨ (i = .int .i64 2 ∧ s = .int .i64 ((n1 + n2 : Nat) : Int))) (fun _ i => 2 - (intOf i).toNat)
  case atStart => exact .inl ⟨rfl, rfl⟩
  case round =>
    rcases hrel with ⟨rfl, rfl⟩ | ⟨rfl, rfl⟩ | ⟨rfl, rfl⟩
    · go_wp2_with fail
      go_round
      case rel => exact .inr (.inl ⟨by go_num, by go_num⟩)
      case measure => simp [intOf]
    · go_wp2_with fail
      go_round
      case rel => exact .inr (.inr ⟨by go_num, by go_num⟩)
      case measure => simp [intOf]
    · have hgr := Lib.hid (fun W => growI_any (n1 + n2) (by omega) W)
      have hm1 : 0 + n1 ≤ maxLen := by unfold maxLen; omega
      have hm2 : n1 + n2 ≤ maxLen := by unfold maxLen; omega
      go_wp2_with fail
      refine (hgr.out _).mono ?_
      rintro e w1 ⟨v1, rfl, og, bg⟩
      have og := Lib.hid og
      go_wp2_with fail
      go_loopw [6, 27] (fun v i wr => ((i = .int .i64 0 ∧ Hid (wr.ownsRow w.heap.size 2 1 v 0 [])) ∨ (i = .int .i64 1 ∧ Hid (wr.ownsRow w.heap.size 2 1 v n1 X1)) ∨ (i = .int .i64 2 ∧ Hid (wr.ownsRow w.heap.size 2 1 v (n1 + n2) (X1 ++ X2)))) ∧ Below w.heap.size w wr) (fun _ i _ => 2 - (intOf i).toNat)
      case atStart => exact ⟨.inl ⟨rfl, og⟩, bg⟩
      case round =>
        clear og bg
        obtain ⟨⟨rfl, ho⟩ | ⟨rfl, ho⟩ | ⟨rfl, ho⟩, hb⟩ := hrel
        · have hc1 := keep_cell hb h1
          have hsz := hb.size
          go_wp2_with (at_builtin; refine wpList_append_own_at _ rfl _ _ 48 rfl w.heap.size 2 i0 (.int .i64 0) 1 8 Tryz.underlying48 hi hz0 hz1 hz2 rfl (by decide) _ 0 [] rfl ho.out ad1 n1 c1 X1 rfl hl1.out (hs1.out _ hb) ho1.out hm1 (by omega) hsz ?_; intro v3 w3 hown3 hgrow3 _ hblk3)
          rw [Nat.zero_add, List.nil_append] at hown3
          have B3 := Lib.hid (hb.grown hgrow3 hsz (fun j hj => (ho.out.lt j hj).1))
          have o3 := Lib.hid hown3
          clear hown3 hgrow3 hblk3
          go_roundw
          case rel => exact ⟨.inr (.inl ⟨by go_num, o3⟩), B3.out⟩
          case measure => simp [intOf]
        · have hc2 := keep_cell hb h2
          have hsz := hb.size
          go_wp2_with (at_builtin; refine wpList_append_own_at _ rfl _ _ 48 rfl w.heap.size 2 i0 (.int .i64 0) 1 8 Tryz.underlying48 hi hz0 hz1 hz2 rfl (by decide) _ n1 X1 rfl ho.out ad2 n2 c2 X2 rfl hl2.out (hs2.out _ hb) ho2.out hm2 (by omega) hsz ?_; intro v3 w3 hown3 hgrow3 _ hblk3)
          have B3 := Lib.hid (hb.grown hgrow3 hsz (fun j hj => (ho.out.lt j hj).1))
          have o3 := Lib.hid hown3
          clear hown3 hgrow3 hblk3
          go_roundw
          case rel => exact ⟨.inr (.inr ⟨by go_num, o3⟩), B3.out⟩
          case measure => simp [intOf]
        · go_wp2_with fail
          go_ret
          exact ⟨_, rfl, by rw [← hcat.out]; exact ho.out, hb⟩
end Go.Proofs.YtmhkcicjbgifnaaGreat
