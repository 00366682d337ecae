/- Lists of formulas in new memory: the substitution that maps each variable to itself. -/
import Derived.Test.YtdpnkojchimmfaaQBLists
import Derived.Maps.AppendAt

namespace Go.Proofs.Ytdpnkojchimmfaa
open Go.RowKit

/-- What is read stays where another row is written. -/
theorem nodes_grown {w w' : World} {v : Value} {ns : List Nd} {row : Option Nat} (h : Nodes w v ns) (hg : w.grownBy w' row) (hne : ∀ k, row = some k → v.ownBlock ≠ some k) : Nodes w' v ns := by
  obtain ⟨h1, h2, a, c, b, o, rfl, hc, ha, hcell⟩ := h
  refine ⟨h1, h2, a, c, b, o, rfl, hc, ha, fun i u hu => ?_⟩
  have hp : 0 < ns.length := by
    rcases Nat.eq_zero_or_pos ns.length with h0 | h0
    · rw [List.eq_nil_of_length_eq_zero h0] at hu; cases hu
    · exact h0
  obtain rfl := ha hp
  have h3 := hcell i u hu
  exact (World.cell?_of_block (hg.block b (World.block_lt_of_cell? w _ h3) fun e => hne b e.symm rfl)).trans h3

/-- A list of formulas in new memory. -/
structure OwnFs (K : Nat) (w : World) (v : Value) (ss : List Sl) : Prop where
  own : w.ownsRow K 27 1 v ss.length (ss.map slV)
  el : ∀ s ∈ ss, Nodes w (slV s) s.2
  ap : ∀ s ∈ ss, ∀ k, v.ownBlock = some k → (slV s).ownBlock ≠ some k
  lt : ∀ s ∈ ss, ∀ k, (slV s).ownBlock = some k → k < w.heap.size
  ks : K ≤ w.heap.size

theorem OwnFs.nil {K : Nat} {w : World} (h : K ≤ w.heap.size) : OwnFs K w (.slice none 0 0) [] := ⟨World.ownsRow_nil _ _ _ _, fun _ h => absurd h List.not_mem_nil, fun _ h => absurd h List.not_mem_nil, fun _ h => absurd h List.not_mem_nil, h⟩

theorem OwnFs.below {K : Nat} {w w' : World} {v : Value} {ss : List Sl} (h : OwnFs K w v ss) (hb : Below w.heap.size w w') : OwnFs K w' v ss :=
  ⟨own_below h.own hb (Nat.le_refl _), fun s hs => (h.el s hs).below hb (Nat.le_refl _), h.ap, fun s hs k hk => Nat.lt_of_lt_of_le (h.lt s hs k hk) hb.size, Nat.le_trans h.ks hb.size⟩

theorem OwnFs.slices {K : Nat} {w : World} {v : Value} {ss : List Sl} (h : OwnFs K w v ss) : Slices w v ss := reads_of_own h.own

theorem OwnFs.push {K : Nat} {w w1 : World} {v v1 : Value} {ss : List Sl} {s : Sl} (h : OwnFs K w v ss) (hn : Nodes w (slV s) s.2) (hb : ∀ k, (slV s).ownBlock = some k → k < w.heap.size) (hs : ∀ k, v.ownBlock = some k → (slV s).ownBlock ≠ some k)
    (ho : w1.ownsRow K 27 1 v1 (ss.length + 1) (ss.map slV ++ [slV s])) (hg : w.grownBy w1 v.ownBlock) (hk : v1.ownBlock = v.ownBlock ∨ v1.ownBlock = some w.heap.size) : OwnFs K w1 v1 (ss ++ [s]) := by
  refine ⟨by rw [List.length_append, List.map_append]; exact ho, ?_, ?_, ?_, Nat.le_trans h.ks hg.size⟩
  · intro t ht
    rcases List.mem_append.1 ht with ht | ht
    · exact nodes_grown (h.el t ht) hg fun k hk2 => h.ap t ht k hk2
    · obtain rfl : t = s := by simpa using ht
      exact nodes_grown hn hg fun k hk2 => hs k hk2
  · intro t ht k hk2
    rcases hk with hk | hk
    · rw [hk] at hk2
      rcases List.mem_append.1 ht with ht | ht
      · exact h.ap t ht k hk2
      · obtain rfl : t = s := by simpa using ht
        exact hs k hk2
    · rw [hk] at hk2
      obtain rfl : w.heap.size = k := by simpa using hk2
      rcases List.mem_append.1 ht with ht | ht
      · intro e
        exact Nat.lt_irrefl _ (h.lt t ht _ e)
      · obtain rfl : t = s := by simpa using ht
        intro e
        exact Nat.lt_irrefl _ (hb _ e)
  · intro t ht k hk2
    rcases List.mem_append.1 ht with ht | ht
    · exact Nat.lt_of_lt_of_le (h.lt t ht k hk2) hg.size
    · obtain rfl : t = s := by simpa using ht
      exact Nat.lt_of_lt_of_le (hb k hk2) hg.size

/-- Each variable's own formula. -/
def selfL (k : Nat) : List (List Nd) := (List.range k).map fun (i : Nat) => [((0 : Int), (i : Int))]
theorem selfL_succ (k : Nat) : selfL (k + 1) = selfL k ++ [[((0 : Int), (k : Int))]] := by simp [selfL, List.range_succ]

theorem info_nodes : (Try.prog.info? 27).map (fun i => (i.zero, i.size, i.bytes)) = some (some (.slice none 0 0), 1, 24) := by kernel_rfl

theorem variable_any (i : Int) (w : World) :
    Calls Try.prog 65 #[.int .i64 i] w fun e w' => e = .returned (.slice (some ⟨w.heap.size, 0, none⟩) 1 1) ∧ Nodes w' (.slice (some ⟨w.heap.size, 0, none⟩) 1 1) [(0, i)] ∧ Below w.heap.size w w' ∧ w.heap.size < w'.heap.size := by
  have hl0 := Lib.hid (World.ownsRow_lit (e := 41) (base := w.heap.size) (size := 2) w #[.int .i64 0, .int .i64 i] 1 (Nat.le_refl _) (by simp [maxLen]) rfl)
  go_enter Try.func65, Try.ntmps65
  go_wp2_with fail
  go_ret
  exact ⟨rfl, nodes_of_own (ns := [(0, i)]) hl0.out, (Below.refl _ _).alloc (Nat.le_refl _) _, by simp⟩
theorem l02Var_any (i : Int) (w : World) :
    Calls Try.prog 52 #[.int .i64 i] w fun e w' => e = .returned (.slice (some ⟨w.heap.size, 0, none⟩) 1 1) ∧ Nodes w' (.slice (some ⟨w.heap.size, 0, none⟩) 1 1) [(0, i)] ∧ Below w.heap.size w w' ∧ w.heap.size < w'.heap.size := by
  have hl0 := Lib.hid (World.ownsRow_lit (e := 41) (base := w.heap.size) (size := 2) w #[.int .i64 0, .int .i64 i] 1 (Nat.le_refl _) (by simp [maxLen]) rfl)
  go_enter Try.func52, Try.ntmps52
  go_wp2_with fail
  go_ret
  exact ⟨rfl, nodes_of_own (ns := [(0, i)]) hl0.out, (Below.refl _ _).alloc (Nat.le_refl _) _, by simp⟩

set_option maxHeartbeats 1000000 in
theorem identity_any (w : World) :
    Calls Try.prog 29 #[] w fun e w' => ∃ v ss, e = .returned v ∧ OwnFs w.heap.size w' v ss ∧ ss.map (·.2) = selfL 6 ∧ Below w.heap.size w w' := by
  obtain ⟨i0, hi, hz0, hz1, hz2⟩ := info_parts info_nodes
  go_enter Try.func29, Try.ntmps29
  go_wp2_with fail
  go_loopw [1, 3] (fun v i wr => ∃ (k : Nat) (ss : List Sl), k ≤ 6 ∧ i = .int .i64 k ∧ OwnFs w.heap.size wr v ss ∧ Hid (ss.map (·.2) = selfL k) ∧ Below w.heap.size w wr) (fun _ i _ => 6 - (intOf i).toNat)
  case atStart => exact ⟨0, [], by omega, rfl, OwnFs.nil (Nat.le_refl _), rfl, Below.refl _ _⟩
  case round =>
    obtain ⟨k, ss, hk, rfl, ho, hss, hb⟩ := hrel
    have hsl : ss.length ≤ 6 := by have := congrArg List.length hss.out; simp [selfL] at this; omega
    by_cases hlt : k < 6
    · have hki : (k : Int) < 6 := by omega
      go_wp2_with fail
      refine (variable_any _ _).mono ?_
      rintro e w1 ⟨rfl, hn1, b1, hs1⟩
      have hw1 := Lib.hid hs1
      have hst := Lib.hid (ho.below b1)
      have hst2 := Lib.hid (hst.out.below ((Below.refl w1.heap.size w1).alloc (Nat.le_refl _) (.cells #[.slice (some ⟨wr.heap.size, 0, none⟩) 1 1] 27)))
      have hn2 := Lib.hid (hn1.below ((Below.refl w1.heap.size w1).alloc (Nat.le_refl _) (.cells #[.slice (some ⟨wr.heap.size, 0, none⟩) 1 1] 27)) (Nat.le_refl _))
      have hnew := Lib.hid (cell_one_new w1 (.slice (some ⟨wr.heap.size, 0, none⟩) 1 1) 27)
      have hlt2 := Lib.hid ho.own.lt
      have B1 := Lib.hid (hb.trans (b1.mono ho.ks))
      have hks := hst2.out.ks
      clear ho hb b1 hn1 hs1
      go_wp2_with (at_builtin; refine wpList_append_own_at _ rfl _ _ 24 rfl w.heap.size 27 i0 (.slice none 0 0) 1 24 Try.underlying24 hi hz0 hz1 hz2 rfl (by decide) _ ss.length (ss.map slV) rfl hst2.out.own ⟨w1.heap.size, 0, none⟩ 1 1 [.slice (some ⟨wr.heap.size, 0, none⟩) 1 1] rfl rfl hnew.out (by simp [Value.oneCell']) (by unfold maxLen; omega) (by omega) hks ?_; intro v2 w2 hown2 hgrow2 _ hblk2)
      go_roundw
      case rel =>
        refine ⟨k + 1, ss ++ [((some ⟨wr.heap.size, 0, none⟩, 1, 1), [(0, (k : Int))])], by omega, by go_num, ?_, ?_, ?_⟩
        · refine hst2.out.push (s := ((some ⟨wr.heap.size, 0, none⟩, 1, 1), [(0, (k : Int))])) hn2.out ?_ ?_ hown2 hgrow2 hblk2
          · intro j hj
            obtain rfl : wr.heap.size = j := by simpa [slV, Value.ownBlock] using hj
            have := hw1.out
            simp; omega
          · intro j hj e
            obtain rfl : wr.heap.size = j := by simpa [slV, Value.ownBlock] using e
            exact Nat.lt_irrefl _ (hlt2.out _ hj).2
        · show List.map _ _ = _
          rw [List.map_append, hss.out, selfL_succ]; rfl
        · exact (B1.out.alloc (by have := hst.out.ks; exact this) _).grown hgrow2 hks (fun j hj => (hst2.out.own.lt j hj).1)
      case measure => simp [intOf]; omega
    · obtain rfl : k = 6 := by omega
      have ho := Lib.hid ho
      go_wp2_with fail
      go_ret
      exact ⟨_, ss, rfl, ho.out, hss.out, hb⟩

end Go.Proofs.Ytdpnkojchimmfaa
