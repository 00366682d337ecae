/- DrawSubMasks: two numbers are drawn. -/
import Derived.Test.YtfedipeabbaccaaDraw
namespace Go.Proofs.Ytfedipeabbaccaa
open Go.RowKit

theorem St.below {w0 w w' : World} {b L K : Nat} {cv : Value} (h : St w0 b cv L w) (hb : Below K w w') (hk : w.heap.size ≤ K) : St w0 b cv L w' := by
  obtain ⟨t, x, hs, r⟩ := h.src
  exact ⟨⟨t, x, hs.below hb (by have := hs.lt; omega), r⟩, h.bel.trans (hb.mono (by have := h.bel.size; omega)), h.le⟩
theorem St.lt {w0 w : World} {b L : Nat} {cv : Value} (h : St w0 b cv L w) : b < w.heap.size := by
  obtain ⟨t, x, hs, _⟩ := h.src
  exact hs.lt

set_option maxHeartbeats 1000000 in
theorem l01Pick_any (w0 : World) (b : Nat) (cv : Value) (zs : List Int) (g k : Nat) (w : World) (hB : Bytes w0 cv zs) (hs : St w0 b cv zs.length w) (hL : zs.length ≤ 4096) (hk0 : 1 ≤ k) (hk1 : k ≤ 100) (hg : b < g) (hc : ∀ j, j < k → ∃ y : Int, w.cell? ⟨g, j, none⟩ = some (.int .i64 y)) :
    Calls Try.prog 78 #[.pointer (some ⟨b, 0, none⟩), .slice (some ⟨g, 0, none⟩) k k] w fun e w' => (∃ x : Int, e = .returned (.int .i64 x)) ∧ St w0 b cv zs.length w' ∧ Turned b (b + 1) w w' := by
  have hcall := Lib.hid (l01Next_any w0 b cv zs (k : Int) w hB hs (by omega) (by omega) hL)
  have hc := Lib.hid hc
  clear hB hs
  go_enter Try.func78, Try.ntmps78
  go_wp2_with fail
  refine hcall.out.mono ?_
  rintro e w1 ⟨⟨x, rfl, x0, x1⟩, hs1, t1⟩
  obtain ⟨X, rfl⟩ := Int.eq_ofNat_of_zero_le x0
  obtain ⟨y, hy⟩ := hc.out X (by omega)
  have hy := t1.cell hy (.inr (by omega))
  have hs1 := Lib.hid hs1
  have t1 := Lib.hid t1
  go_wp2_with fail
  go_ret
  exact ⟨⟨y, rfl⟩, hs1.out, t1.out⟩

theorem four_cells (w : World) (a b c d : Int) (t : TypeId) : ∀ j, j < 4 → ∃ y : Int, (w.alloc (.cells #[.int .i64 a, .int .i64 b, .int .i64 c, .int .i64 d] t)).cell? ⟨w.heap.size, j, none⟩ = some (.int .i64 y) := by
  intro j hj
  rw [World.cell?_alloc_at _ _ _ _ rfl]
  match j, hj with
  | 0, _ => exact ⟨a, rfl⟩
  | 1, _ => exact ⟨b, rfl⟩
  | 2, _ => exact ⟨c, rfl⟩
  | 3, _ => exact ⟨d, rfl⟩
theorem three_cells (w : World) (a b c : Int) (t : TypeId) : ∀ j, j < 3 → ∃ y : Int, (w.alloc (.cells #[.int .i64 a, .int .i64 b, .int .i64 c] t)).cell? ⟨w.heap.size, j, none⟩ = some (.int .i64 y) := by
  intro j hj
  rw [World.cell?_alloc_at _ _ _ _ rfl]
  match j, hj with
  | 0, _ => exact ⟨a, rfl⟩
  | 1, _ => exact ⟨b, rfl⟩
  | 2, _ => exact ⟨c, rfl⟩

set_option maxHeartbeats 1000000 in
theorem l01Size_any (w0 : World) (b : Nat) (cv : Value) (zs : List Int) (w : World) (hB : Bytes w0 cv zs) (hs : St w0 b cv zs.length w) (hL : zs.length ≤ 4096) :
    Calls Try.prog 50 #[.pointer (some ⟨b, 0, none⟩)] w fun e w' => (∃ x : Int, e = .returned (.int .i64 x)) ∧ St w0 b cv zs.length w' := by
  have hnext := Lib.hid (fun (n : Int) (W : World) (hW : St w0 b cv zs.length W) (h1 : 1 ≤ n) (h2 : n ≤ 9223372036854775807) => l01Next_any w0 b cv zs n W hB hW h1 h2 hL)
  have hpick := Lib.hid (fun (g : Nat) (W : World) (hW : St w0 b cv zs.length W) (hg : b < g) hc => l01Pick_any w0 b cv zs g 4 W hB hW hL (by omega) (by omega) hg hc)
  have hs := Lib.hid hs
  clear hB
  go_enter Try.func50, Try.ntmps50
  go_wp2_with fail
  refine (hnext.out 24 _ hs.out (by omega) (by omega)).mono ?_
  rintro e w1 ⟨⟨x, rfl, x0, x1⟩, hs1, _⟩
  have hs1 := Lib.hid hs1
  by_cases h0 : x = 0
  · subst h0
    have hW := Lib.hid (hs1.out.below ((Below.refl w1.heap.size w1).alloc (Nat.le_refl _) (.cells #[.int .i64 (-1), .int .i64 31, .int .i64 30, .int .i64 9223372036854775807] 2)) (Nat.le_refl _))
    have hc := Lib.hid (four_cells w1 (-1) 31 30 9223372036854775807 2)
    go_wp2_with fail
    refine (hpick.out _ _ hW.out hs1.out.lt hc.out).mono ?_
    rintro e w2 ⟨⟨y, rfl⟩, hs2, _⟩
    have hs2 := Lib.hid hs2
    go_wp2_with fail
    go_ret
    exact ⟨⟨_, rfl⟩, hs2.out⟩
  · have e0 : (x == 0) = false := by rw [beq_eq_false_iff_ne]; exact h0
    by_cases h1 : x = 1
    · subst h1
      go_wp2_with fail
      refine (hnext.out 20 _ hs1.out (by omega) (by omega)).mono ?_
      rintro e w2 ⟨⟨y, rfl, y0, y1⟩, hs2, _⟩
      have hs2 := Lib.hid hs2
      go_wp2_with fail
      go_ret
      exact ⟨⟨_, rfl⟩, hs2.out⟩
    · have e1 : (x == 1) = false := by rw [beq_eq_false_iff_ne]; exact h1
      go_wp2_with fail
      refine (hnext.out 8 _ hs1.out (by omega) (by omega)).mono ?_
      rintro e w2 ⟨⟨y, rfl, y0, y1⟩, hs2, _⟩
      have hs2 := Lib.hid hs2
      go_wp2_with fail
      go_ret
      exact ⟨⟨_, rfl⟩, hs2.out⟩

set_option maxHeartbeats 1000000 in
theorem l01Mask_any (w0 : World) (b : Nat) (cv : Value) (zs : List Int) (n : Int) (w : World) (hB : Bytes w0 cv zs) (hs : St w0 b cv zs.length w) (hL : zs.length ≤ 4096) :
    Calls Try.prog 51 #[.pointer (some ⟨b, 0, none⟩), .int .i64 n] w fun e w' => (∃ x : Int, e = .returned (.int .i64 x)) ∧ St w0 b cv zs.length w' := by
  have hnext := Lib.hid (fun (n : Int) (W : World) (hW : St w0 b cv zs.length W) (h1 : 1 ≤ n) (h2 : n ≤ 9223372036854775807) => l01Next_any w0 b cv zs n W hB hW h1 h2 hL)
  have hpick := Lib.hid (fun (g : Nat) (W : World) (hW : St w0 b cv zs.length W) (hg : b < g) hc => l01Pick_any w0 b cv zs g 3 W hB hW hL (by omega) (by omega) hg hc)
  have hs := Lib.hid hs
  clear hB
  cases hin : inR n 0 30
  · have hin := Lib.hid hin
    rename_i hin'
    clear hin'
    go_enter Try.func51, Try.ntmps51
    go_wp2_with fail
    refine (l01In_any _ _ _ _).mono ?_
    rintro e w' ⟨rfl, rfl⟩
    rw [hin.out]
    go_wp2_with fail
    refine (hnext.out 20 _ hs.out (by omega) (by omega)).mono ?_
    rintro e w2 ⟨⟨y, rfl, y0, y1⟩, hs2, _⟩
    have hs2 := Lib.hid hs2
    go_wp2_with fail
    go_ret
    exact ⟨⟨_, rfl⟩, hs2.out⟩
  · have hr := inR_iff.1 hin
    have hin := Lib.hid hin
    rename_i hin'
    clear hin'
    have hfull := Lib.hid (fun W => l01Full_any n hr.1 (by omega) W)
    generalize full n = F at *
    go_enter Try.func51, Try.ntmps51
    go_wp2_with fail
    refine (l01In_any _ _ _ _).mono ?_
    rintro e w' ⟨rfl, rfl⟩
    rw [hin.out]
    go_wp2_with fail
    refine (hnext.out 30 _ hs.out (by omega) (by omega)).mono ?_
    rintro e w1 ⟨⟨x, rfl, x0, x1⟩, hs1, _⟩
    have hs1 := Lib.hid hs1
    by_cases h0 : x = 0
    · subst h0
      go_wp2_with fail
      refine (hfull.out _).mono ?_
      rintro e w' ⟨rfl, rfl⟩
      have hW := Lib.hid (fun z : Int => hs1.out.below ((Below.refl w1.heap.size w1).alloc (Nat.le_refl _) (.cells #[.int .i64 (-1), .int .i64 z, .int .i64 9223372036854775807] 2)) (Nat.le_refl _))
      have hc := Lib.hid (fun z : Int => three_cells w1 (-1) z 9223372036854775807 2)
      go_wp2_with fail
      refine (hpick.out _ _ (hW.out _) hs1.out.lt (hc.out _)).mono ?_
      rintro e w2 ⟨⟨y, rfl⟩, hs2, _⟩
      have hs2 := Lib.hid hs2
      go_wp2_with fail
      go_ret
      exact ⟨⟨_, rfl⟩, hs2.out⟩
    · have e0 : (x == 0) = false := by rw [beq_eq_false_iff_ne]; exact h0
      go_wp2_with fail
      refine (hnext.out 65536 _ hs1.out (by omega) (by omega)).mono ?_
      rintro e w2 ⟨⟨y, rfl, y0, y1⟩, hs2, _⟩
      have hs2 := Lib.hid hs2
      go_wp2_with fail
      refine (hnext.out 65536 _ hs2.out (by omega) (by omega)).mono ?_
      rintro e w3 ⟨⟨z, rfl, z0, z1⟩, hs3, _⟩
      have hs3 := Lib.hid hs3
      go_wp2_with fail
      refine (hfull.out _).mono ?_
      rintro e w' ⟨rfl, rfl⟩
      go_wp2_with fail
      go_ret
      exact ⟨⟨_, rfl⟩, hs3.out⟩

set_option maxHeartbeats 1000000 in
theorem drawSubMasks_any (cv : Value) (zs : List Int) (w : World) (hB : Bytes w cv zs) (hL : zs.length ≤ 4096) :
    Calls Try.prog 22 #[cv] w fun e w' => (∃ n m : Int, e = .returned (.tuple #[.int .i64 n, .int .i64 m])) ∧ Below w.heap.size w w' := by
  have h1 := Lib.hid (l01From_any cv zs w hB hL)
  have h2 := Lib.hid (fun W hW => l01Size_any w w.heap.size cv zs W hB hW hL)
  have h3 := Lib.hid (fun n W hW => l01Mask_any w w.heap.size cv zs n W hB hW hL)
  clear hB
  go_enter Try.func22, Try.ntmps22
  go_wp2_with fail
  refine h1.out.mono ?_
  rintro e w1 ⟨rfl, hs1⟩
  have hs1 := Lib.hid hs1
  go_wp2_with fail
  refine (h2.out _ hs1.out).mono ?_
  rintro e w2 ⟨⟨n, rfl⟩, hs2⟩
  have hs2 := Lib.hid hs2
  go_wp2_with fail
  refine (h3.out n _ hs2.out).mono ?_
  rintro e w3 ⟨⟨m, rfl⟩, hs3⟩
  have hs3 := Lib.hid hs3.bel
  go_wp2_with fail
  go_ret2
  exact ⟨⟨n, m, rfl⟩, hs3.out⟩
end Go.Proofs.Ytfedipeabbaccaa
